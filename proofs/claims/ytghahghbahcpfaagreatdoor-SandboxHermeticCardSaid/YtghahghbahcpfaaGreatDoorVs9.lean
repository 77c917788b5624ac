/- The walk over the execution's step. -/
import Derived.Test.YtghahghbahcpfaaGreatDoorVs8
import Derived.Test.YtghahghbahcpfaaGreatDoorVs6
import Derived.Test.YtghahghbahcpfaaGreatDoorVs4
import Derived.Test.YtghahghbahcpfaaGreatDoorVa2
namespace Go.Proofs.YtghahghbahcpfaaGreatDoor
open Go.RowKit

def StepPost (xb : Nat) (c : Nat → Value) (x : StM) (v : ViewM) (j : JobM) (s : StepM) (w : World) (e : Ending) (w' : World) : Prop := e = .returned (.int .i64 (stepF (declF j.inputs) j v x s).2) ∧ XSt xb c (stepF (declF j.inputs) j v x s).1 w' ∧ Below xb w w'
theorem below_dN (w : World) (n : Nat) : Below w.heap.size w (w.drewN n) := ⟨rfl, rfl, rfl, Nat.le_refl _, fun _ _ => rfl⟩
theorem max_i64 (a : Int) (h : i64R a) : i64R (max a 0) := by unfold i64R at *; omega
set_option maxRecDepth 100000 in
set_option maxHeartbeats 6400000 in
theorem step_any (xb : Nat) (c : Nat → Value) (x : StM) (v : ViewM) (j : JobM) (s : StepM) (hnm : s.name.size ≤ 10000) (htx : s.text.size ≤ 100000) (hlg : x.log.length ≤ 100000000) (hrl : x.reads.length ≤ 900) (hol : x.outs.length ≤ 900) (hsv : x.saves.length ≤ 10000) (hJ : JB j) (hB : VB v) (m : Int) (w : World) (hm : w.cell? ⟨0, 0, none⟩ = some (.int .i64 m)) (h00 : 0 < xb) (hst : XSt xb c x w) (hv : VAt xb c v w) (hj : JAt xb c j w) :
    Calls Tryz.prog 34 #[.pointer (some ⟨xb, 0, none⟩), stepV s] w (StepPost xb c x v j s w) := by
  obtain ⟨op, nm, tx, n⟩ := s
  have hlt := hst.lt
  obtain ⟨w1, hw1⟩ : ∃ w1, w.alloc (.cells #[.int .i64 op, .string nm, .string tx, .int .i64 n] tStep (0, 0)) = w1 := ⟨_, rfl⟩
  have hk1 : w1.heap[w.heap.size]? = some (.cells #[.int .i64 op, .string nm, .string tx, .int .i64 n] tStep (0, 0)) := by rw [← hw1]; exact hp_new rfl
  have hb1 : Below w.heap.size w w1 := by rw [← hw1]; exact (Below.refl _ w).alloc (Nat.le_refl _) _
  have RF := Lib.hid (refused_any xb c x v j ⟨op, nm, tx, n⟩ hnm hJ hB w1 (hst.grow hb1) (hv.below (hb1.mono (Nat.le_of_lt hlt))) (hj.below (hb1.mono (Nat.le_of_lt hlt))))
  unfold RefPost at RF
  have s0 : w1.cell? ⟨w.heap.size, 0, none⟩ = some (.int .i64 op) := cell_of_blk hk1 0
  have s1 : w1.cell? ⟨w.heap.size, 1, none⟩ = some (.string nm) := cell_of_blk hk1 1
  have s2 : w1.cell? ⟨w.heap.size, 2, none⟩ = some (.string tx) := cell_of_blk hk1 2
  have s3 : w1.cell? ⟨w.heap.size, 3, none⟩ = some (.int .i64 n) := cell_of_blk hk1 3
  have z1 : w.heap.size < w1.heap.size := (Array.getElem?_eq_some_iff.1 hk1).1
  have HK1 := Lib.hid hk1
  have HB1 : Hid (Below w.heap.size w w1) := hb1
  have HW1 := Lib.hid hw1
  have HX1 := Lib.hid (hst.grow hb1)
  have HVW : Hid (∀ W, Below xb w W → VAt xb c v W) := fun W hb => hv.below hb
  have HJA := Lib.hid hj
  have HJB := Lib.hid hJ
  have HBV := Lib.hid hB
  have HM := Lib.hid hm
  have HLIM : Hid (nm.size ≤ 10000 ∧ tx.size ≤ 100000 ∧ x.log.length ≤ 100000000 ∧ x.reads.length ≤ 900 ∧ x.outs.length ≤ 900 ∧ x.saves.length ≤ 10000) := ⟨hnm, htx, hlg, hrl, hol, hsv⟩
  obtain ⟨rf, hrf⟩ : ∃ rf, refusedF (declF j.inputs) j v ⟨op, nm, tx, n⟩ = rf := ⟨_, rfl⟩
  rw [hrf] at RF
  have HRF := Lib.hid hrf
  clear hst hv hj hJ hB hm hk1 hb1 hw1 hnm htx hlg hrl hol hsv hrf
  go_enter Tryz.func34, Tryz.ntmps34
  go_upto_region 1 with fail
  rw [HW1.out]
  clear HW1
  go_wp2_with fail
  refine RF.out.mono ?_
  rintro e w2 ⟨rfl, hb⟩
  have HB2 : Hid (Below w.heap.size w w2) := HB1.out.trans (hb.mono (Nat.le_of_lt z1))
  have HK2 : Hid (w2.heap[w.heap.size]? = some (.cells #[.int .i64 op, .string nm, .string tx, .int .i64 n] tStep (0, 0))) := (hb.block _ z1).trans HK1.out
  have HX2 := Lib.hid (HX1.out.grow hb)
  have z2 : w.heap.size < w2.heap.size := Nat.lt_of_lt_of_le z1 hb.size
  clear hb RF s0 s1 s2 s3 HK1 HX1
  by_cases h0 : rf = 0
  · have e0 : ((rf : Int) != 0) = false := by simp [h0]
    rw [h0] at HRF
    have hok := refused_ok HRF.out
    have TK : Hid (∀ W, Below w2.heap.size w2 W → Calls Tryz.prog 61 #[.pointer (some ⟨xb, 0, none⟩), stepV ⟨op, nm, tx, n⟩] W (TksPost v x ⟨op, nm, tx, n⟩ W)) := fun W hb =>
      takes_any xb c x v _ hok HLIM.out.2.2.2.2.2 HBV.out W (HX2.out.grow hb) (HVW.out W ((HB2.out.trans (hb.mono (Nat.le_of_lt z2))).mono (Nat.le_of_lt hlt)))
    unfold TksPost at TK
    have hr2 := takesF_r v x.saves ⟨op, nm, tx, n⟩
    have HST : Hid (stepF (declF j.inputs) j v x ⟨op, nm, tx, n⟩ = if j.timeout < addI x.time (takesF v x.saves ⟨op, nm, tx, n⟩) then ({ x with time := max j.timeout 0 }, 3) else performF v { x with time := addI x.time (takesF v x.saves ⟨op, nm, tx, n⟩) } ⟨op, nm, tx, n⟩) := by
      unfold Hid stepF
      rw [if_neg (fun h => h HRF.out)]
    obtain ⟨tk, htk⟩ : ∃ tk, takesF v x.saves ⟨op, nm, tx, n⟩ = tk := ⟨_, rfl⟩
    rw [htk] at TK HST hr2
    have HOK := Lib.hid hok
    obtain ⟨cs, p, l, r, o, t, sv, hx2⟩ := HX2.out
    have HXA := Lib.hid hx2
    have ADD := Lib.hid (fun W => add_any x.time tk hx2.time hr2 W)
    have HTR : Hid (i64R (addI x.time tk)) := addI_r _ _
    have HS4 : Hid (∀ W' : World, Below w2.heap.size w2 W' → W'.cell? ⟨xb, 49, none⟩ = some (.int .i64 x.time) ∧ W'.cell? ⟨w.heap.size, 0, none⟩ = some (.int .i64 op) ∧ W'.cell? ⟨w.heap.size, 1, none⟩ = some (.string nm) ∧ W'.cell? ⟨w.heap.size, 2, none⟩ = some (.string tx) ∧ W'.cell? ⟨w.heap.size, 3, none⟩ = some (.int .i64 n)) := fun W' hb =>
      have q := (hb.block _ z2).trans HK2.out
      ⟨(cell_of_blk (HXA.out.grow hb).blk 49).trans (HXA.out.grow hb).c49, cell_of_blk q 0, cell_of_blk q 1, cell_of_blk q 2, cell_of_blk q 3⟩
    have HDR : Hid (Below w2.heap.size w2 w2.drew) := (Below.refl _ _).drew
    have hx2l := hx2.lt
    obtain ⟨tt, htt⟩ : ∃ tt, addI x.time tk = tt := ⟨_, rfl⟩
    rw [htt] at HTR HST ADD
    clear hx2 htk h0 hr2 hok HX2 htt
    go_upto_region 4 with fail
    refine wp_region_Z (S := fun W' : World => W'.cell? ⟨xb, 49, none⟩ = some (.int .i64 x.time) ∧ W'.cell? ⟨w.heap.size, 0, none⟩ = some (.int .i64 op) ∧ W'.cell? ⟨w.heap.size, 1, none⟩ = some (.string nm) ∧ W'.cell? ⟨w.heap.size, 2, none⟩ = some (.string tx) ∧ W'.cell? ⟨w.heap.size, 3, none⟩ = some (.int .i64 n)) 11 (by kernel_rfl) (HS4.out _ HDR.out) (fun hHeld => ?_)
    refine ztk 0 ?_
    try simp only [Act.put, zA, zB, zC]
    refine ztk 1 ?_
    try simp only [Act.put, zA, zB, zC]
    refine ztk 2 ?_
    try simp only [Act.put, zA, zB, zC]
    refine ztk 3 ?_
    try simp only [Act.put, zA, zB, zC]
    refine ztk 4 ?_
    try simp only [Act.put, zA, zB, zC]
    refine ztk 5 ?_
    try simp only [Act.put, zA, zB, zC]
    refine ztk 6 ?_
    try simp only [Act.put, zA, zB, zC]
    refine wpAnyZ_oneL (i := 7) (by kernel_rfl) rfl (fun K hK => ?_)
    go_simp
    go_at_call 61
    refine (TK.out _ HDR.out).mono ?_
    rintro e w6 ⟨rfl, hb6⟩
    have HB6 := Lib.hid (HDR.out.trans (hb6.mono HDR.out.size))
    clear hb6
    refine hK.out _ _ (fun _ => HS4.out _ HB6.out) (fun hHeld => ?_)
    replace hHeld := hHeld (by decide)
    clear hK K
    try simp only [Act.put, zA, zB, zC]
    refine wpAnyZ_oneL (i := 8) (by kernel_rfl) rfl (fun K hK => ?_)
    go_simp
    go_at_call 60
    refine (ADD.out _).mono ?_
    rintro e w9 ⟨rfl, hw9⟩
    rw [hw9]
    clear hw9 w9
    have hx6 := HXA.out.grow HB6.out
    have f649 := free_of_blk hx6.blk 49
    have c649 := (HS4.out _ HB6.out).1
    have HP := Lib.hid (hx6.put 49 (.int .i64 tt) { x with time := tt } (Or.inr (Or.inl rfl)) rfl hx6.acc rfl HTR.out rfl ⟨rfl, rfl, rfl, rfl, rfl⟩)
    have HWR := Lib.hid (wrote_setCell hx6.blk 49 (.int .i64 tt))
    clear hx6
    refine hK.out _ _ (fun _ => HS4.out _ HB6.out) (fun hHeld => ?_)
    replace hHeld := hHeld (by decide)
    clear hK K
    try simp only [Act.put, zA, zB, zC]
    refine ztk 9 ?_
    try simp only [Act.put, zA, zB, zC]
    refine ztk 10 ?_
    try simp only [Act.put, zA, zB, zC]
    refine wpAnyZ_oneL (i := 11) (by kernel_rfl) rfl (fun K hK => ?_)
    go_simp
    refine hK.out _ _ (fun h => absurd h (by decide)) (fun _ => ?_)
    clear hK K
    try simp only [Act.put, zA, zB, zC]
    refine wpAnyZ_done (by kernel_rfl) ?_ _
    clear hHeld
    obtain ⟨w7, hw7⟩ : ∃ W, w6.setCell ⟨xb, 49, none⟩ (.int .i64 tt) = W := ⟨_, rfl⟩
    rw [hw7] at HP HWR
    rw [hw7]
    clear hw7 f649 c649
    have HB7 : Hid (Below xb w2 w7) := (HB6.out.mono (Nat.le_of_lt hx2l)).trans HP.out.2
    have HX7 := Lib.hid HP.out.1
    have HK7 : Hid (w7.heap[w.heap.size]? = some (.cells #[.int .i64 op, .string nm, .string tx, .int .i64 n] tStep (0, 0))) := (HWR.out.block _ (by omega)).trans ((HB6.out.block _ z2).trans HK2.out)
    have z7 : w.heap.size < w7.heap.size := (Array.getElem?_eq_some_iff.1 HK7.out).1
    have c49 : w7.cell? ⟨xb, 49, none⟩ = some (.int .i64 tt) := (cell_of_blk HX7.out.blk 49).trans HX7.out.c49
    have c19 : w7.cell? ⟨xb, 19, none⟩ = some (.int .i64 j.timeout) := by rw [← HJA.out.timeout]; exact HX7.out.cell (by decide)
    have HTO : Hid (i64R j.timeout) := HJB.out.timeout
    clear HS4 TK ADD HDR HP HWR HB6
    by_cases ht : j.timeout < tt
    · have d1 : decide (j.timeout < tt) = true := decide_eq_true ht
      rw [if_pos ht] at HST
      go_upto_region 5 with fail
      go_quiet (fail)
      have HB8 : Hid (Below w7.heap.size w7 (w7.drewN nq)) := below_dN _ _
      generalize w7.drewN nq = w8 at *
      have hx8 := HX7.out.grow HB8.out
      have c849 : w8.cell? ⟨xb, 49, none⟩ = some (.int .i64 tt) := (cell_of_blk hx8.blk 49).trans hx8.c49
      have f849 := free_of_blk hx8.blk 49
      have c819 : w8.cell? ⟨xb, 19, none⟩ = some (.int .i64 j.timeout) := by rw [← HJA.out.timeout]; exact hx8.cell (by decide)
      have HP9 := Lib.hid (hx8.put 49 (.int .i64 (max j.timeout 0)) { x with time := max j.timeout 0 } (Or.inr (Or.inl rfl)) rfl hx8.acc rfl (max_i64 _ HTO.out) rfl ⟨rfl, rfl, rfl, rfl, rfl⟩)
      have HB9 : Hid (Below xb w w8) := (HB2.out.mono (Nat.le_of_lt hlt)).trans (HB7.out.trans (HB8.out.mono (Nat.le_of_lt HX7.out.lt)))
      clear hx8 HX7 HK7 c49 c19 d1 ht HB8 HB7 HB2 HXA
      by_cases hz : 0 ≤ j.timeout
      · have hmx : max j.timeout 0 = j.timeout := by omega
        rw [hmx] at HP9 HST
        go_wp2_with fail
        go_ret
        unfold StepPost
        rw [HST.out]
        exact ⟨rfl, ⟨_, _, _, _, _, _, _, HP9.out.1⟩, HB9.out.trans HP9.out.2⟩
      · have hmx : max j.timeout 0 = 0 := by omega
        rw [hmx] at HP9 HST
        go_wp2_with fail
        go_ret
        unfold StepPost
        rw [HST.out]
        exact ⟨rfl, ⟨_, _, _, _, _, _, _, HP9.out.1⟩, HB9.out.trans HP9.out.2⟩
    · have d1 : decide (j.timeout < tt) = false := decide_eq_false ht
      rw [if_neg ht] at HST
      go_upto_region 5 with fail
      go_quiet (fail)
      have HB8 : Hid (Below w7.heap.size w7 (w7.drewN nq)) := below_dN _ _
      generalize w7.drewN nq = w8 at *
      have hx8 := HX7.out.grow HB8.out
      have HK8 : Hid (w8.heap[w.heap.size]? = some (.cells #[.int .i64 op, .string nm, .string tx, .int .i64 n] tStep (0, 0))) := (HB8.out.block _ z7).trans HK7.out
      have HB9 : Hid (Below xb w w8) := (HB2.out.mono (Nat.le_of_lt hlt)).trans (HB7.out.trans (HB8.out.mono (Nat.le_of_lt HX7.out.lt)))
      have s0 : w8.cell? ⟨w.heap.size, 0, none⟩ = some (.int .i64 op) := cell_of_blk HK8.out 0
      have s1 : w8.cell? ⟨w.heap.size, 1, none⟩ = some (.string nm) := cell_of_blk HK8.out 1
      have s2 : w8.cell? ⟨w.heap.size, 2, none⟩ = some (.string tx) := cell_of_blk HK8.out 2
      have s3 : w8.cell? ⟨w.heap.size, 3, none⟩ = some (.int .i64 n) := cell_of_blk HK8.out 3
      have PF := Lib.hid (perform_any xb c { x with time := tt } v ⟨op, nm, tx, n⟩ HOK.out (by have := HLIM.out.1; dsimp only; omega) HLIM.out.2.1 HLIM.out.2.2.1 HLIM.out.2.2.2.1 HLIM.out.2.2.2.2.1 HLIM.out.2.2.2.2.2 HBV.out m w8 ((HB9.out.cell (p := ⟨0, 0, none⟩) h00).trans HM.out) h00 ⟨_, _, _, _, _, _, _, hx8⟩ (HVW.out w8 HB9.out))
      unfold PfPost at PF
      clear hx8 HX7 HK7 HK8 c49 c19 d1 ht HB8 HB7 HB2 HXA
      go_wp2_with fail
      refine PF.out.mono ?_
      rintro e w9 ⟨rfl, hx9, hb9⟩
      have HX9 := Lib.hid hx9
      have HBB := Lib.hid (HB9.out.trans hb9)
      clear hx9 hb9 PF
      go_wp2_with fail
      go_ret
      unfold StepPost
      rw [HST.out]
      exact ⟨rfl, HX9.out, HBB.out⟩
  · have e0 : ((rf : Int) != 0) = true := by simp [h0]
    have HST : Hid (stepF (declF j.inputs) j v x ⟨op, nm, tx, n⟩ = (x, rf)) := by
      unfold Hid stepF
      rw [HRF.out, if_pos h0]
    clear h0
    go_wp2_with fail
    go_ret
    unfold StepPost
    rw [HST.out]
    exact ⟨rfl, HX2.out, HB2.out.mono (Nat.le_of_lt hlt)⟩
end Go.Proofs.YtghahghbahcpfaaGreatDoor
/- The walk over sandbox.begin. -/
namespace Go.Proofs.YtghahghbahcpfaaGreatDoor
open Go.RowKit

abbrev tDig : TypeId := 58
abbrev tJob : TypeId := 38
theorem ed_three {w : World} {blk : Nat} {x y z : Nat} {t : TypeId} (h : w.heap[blk]? = some (.cells #[.int .u64 (x : Nat), .int .u64 (y : Nat), .int .u64 (z : Nat)] t (0, 0))) : EDig.Row (fun _ => True) w [x, y, z] (.slice (some ⟨blk, 0, none⟩) 3 3) :=
  .inr ⟨blk, 0, 3, rfl, trivial, (Array.getElem?_eq_some_iff.1 h).1, Nat.le_refl _, fun k hk => ⟨[.int .u64 ([x, y, z][k] : Nat)], fun j u hu => by
    have hk : k = 0 ∨ k = 1 ∨ k = 2 := by simp at hk; omega
    have hj : j = 0 := by
      have := (List.getElem?_eq_some_iff.1 hu).1
      simpa using this
    subst hj
    injection hu with hu
    subst hu
    rw [cell_of_blk h]
    rcases hk with rfl | rfl | rfl <;> rfl, rfl⟩⟩
theorem wrap_u64 (z : Int) : IntKind.u64.wrap z = ((u64I z : Nat) : Int) := by
  have h : IntKind.u64.wrap z = z % 18446744073709551616 := rfl
  rw [h]
  unfold u64I
  omega
theorem u64I_lt (z : Int) : u64I z < 18446744073709551616 := by unfold u64I; omega
theorem stepD_lt (s : StepM) : stepD s < 18446744073709551616 := ofN_lt _ _
def BgRel (L : List StepM) (w1 : World) (f : Nat) (t3 t9 : Value) (wr : World) : Prop :=
  ∃ i : Nat, t9 = .int .i64 (i : Nat) ∧ i ≤ L.length ∧ f = L.length - i ∧ EDig.Own tDig w1.heap.size noB wr ((L.take i).map stepD) t3 ∧ Below w1.heap.size w1 wr
set_option maxRecDepth 100000 in
set_option maxHeartbeats 6400000 in
theorem begin_any (c : Nat → Value) (L : List StepM) (B : Nat → Prop) (hn : L.length ≤ 1000) (hL : ∀ s ∈ L, s.name.size ≤ 1000000 ∧ s.text.size ≤ 1000000) (w : World) (h : EStep.Row B w L (c 13)) :
    Calls Tryz.prog 33 #[jobA c] w fun e w' => e = .returned (.int .u64 (beginF L : Nat)) ∧ Below w.heap.size w w' := by
  obtain ⟨so, sc, h13⟩ := h.form
  rw [h13] at h
  obtain ⟨w1, hw1⟩ : ∃ w1, w.alloc (.cells #[c 0, c 1, c 2, c 3, c 4, c 5, c 6, c 7, c 8, c 9, c 10, c 11, c 12, c 13, c 14, c 15, c 16, c 17, c 18, c 19, c 20, c 21, c 22, c 23, c 24, c 25, c 26, c 27, c 28, c 29, c 30, c 31, c 32, c 33, c 34, c 35, c 36, c 37, c 38] tJob (0, 0)) = w1 := ⟨_, rfl⟩
  have hk1 : w1.heap[w.heap.size]? = some (.cells #[c 0, c 1, c 2, c 3, c 4, c 5, c 6, c 7, c 8, c 9, c 10, c 11, c 12, c 13, c 14, c 15, c 16, c 17, c 18, c 19, c 20, c 21, c 22, c 23, c 24, c 25, c 26, c 27, c 28, c 29, c 30, c 31, c 32, c 33, c 34, c 35, c 36, c 37, c 38] tJob (0, 0)) := by rw [← hw1]; exact hp_new rfl
  have HB1 : Hid (Below w.heap.size w w1) := by unfold Hid; rw [← hw1]; exact (Below.refl _ w).alloc (Nat.le_refl _) _
  have c13 : w1.cell? ⟨w.heap.size, 13, none⟩ = some (.slice so L.length sc) := by rw [← h13]; exact cell_of_blk hk1 13
  have H := Lib.hid (h.below HB1.out)
  have HL := Lib.hid hL
  have HW1 := Lib.hid hw1
  obtain ⟨iD, hiD, hzD, hnD, hyD⟩ := Tryz.infoDig'
  have HI := Lib.hid hiD
  clear h hL hk1 hw1 h13 hiD
  go_enter Tryz.func33, Tryz.ntmps33
  go_upto_region 1 with fail
  rw [HW1.out]
  clear HW1
  go_wp2_with fail
  clear c13
  go_loopg [3, 9] L.length (BgRel L w1)
  case atStart => exact ⟨0, rfl, Nat.zero_le _, rfl, ElemK.Own.nil, Below.refl _ _⟩
  case round =>
    obtain ⟨i, rfl, hi, rfl, hown, hbel⟩ := hrel
    have HB := Lib.hid hbel
    obtain ⟨co, cc, rfl⟩ := hown.form
    have HO := Lib.hid hown
    clear hown hbel
    by_cases hlt : i < L.length
    · obtain ⟨bl, off, cs, rfl, _, hbl, hc, hR⟩ := (H.out.below HB.out).at hlt
      have hcs : cs = [.int .i64 L[i].op, .string L[i].name, .string L[i].text, .int .i64 L[i].n] := hR
      subst hcs
      have e0 : wr.cell? ⟨bl, off + i * 4 + 0, none⟩ = _ := hc 0 _ rfl
      have e1 : wr.cell? ⟨bl, off + i * 4 + 1, none⟩ = _ := hc 1 _ rfl
      have e2 : wr.cell? ⟨bl, off + i * 4 + 2, none⟩ = _ := hc 2 _ rfl
      have e3 : wr.cell? ⟨bl, off + i * 4 + 3, none⟩ = _ := hc 3 _ rfl
      rw [Nat.add_zero] at e0
      have hii : (i : Int) < (L.length : Int) := by omega
      have hsz := HL.out L[i] (List.getElem_mem hlt)
      have HF : Hid ((L.take (i + 1)).map stepD = (L.take i).map stepD ++ [stepD L[i]]) := by
        unfold Hid
        rw [List.take_succ_eq_append_getElem hlt, List.map_append]
        rfl
      have HSD : Hid (stepD L[i] = ofN [115, 116, 101, 112] [u64I L[i].op, sumS L[i].name, sumS L[i].text]) := rfl
      have hml : ((L.take i).map stepD).length ≤ 1000 := by rw [List.length_map, List.length_take]; omega
      generalize L[i] = s at *
      obtain ⟨op, nm, tx, n⟩ := s
      dsimp only at hsz HSD e0 e1 e2 e3
      generalize hA : (L.take i).map stepD = A at *
      have HWU := Lib.hid (wrap_u64 op)
      have SN := Lib.hid (fun w => sum_any nm hsz.1 w)
      have SX := Lib.hid (fun w => sum_any tx hsz.2 w)
      have HD : Hid (∀ d ∈ [u64I op, sumS nm, sumS tx], d < 18446744073709551616) := fun d hd => by
        rcases List.mem_cons.1 hd with rfl | hd
        · exact u64I_lt _
        rcases List.mem_cons.1 hd with rfl | hd
        · exact sumN_lt _
        · rw [List.mem_singleton.1 hd]; exact sumN_lt _
      generalize sumS nm = sn at *
      generalize sumS tx = sx at *
      have wu := HWU.out
      generalize u64I op = ou at *
      have OF := Lib.hid (fun (W : World) (v2 : Value) (h : EDig.Row (fun _ => True) W [ou, sn, sx] v2) => of_any ⟨#[115, 116, 101, 112]⟩ [ou, sn, sx] v2 _ (by decide) (by show 3 ≤ 1000000; decide) HD.out W h)
      generalize stepD ⟨op, nm, tx, n⟩ = sd at *
      clear hA hc hR hsz HD
      as_aux_lemma =>
      go_wp2_with (refine wpList_store_row rfl tStep _ _ rfl wr.heap.size rfl tStep _ (hp_new rfl) (.agg #[.int .i64 op, .string nm, .string tx, .int .i64 n]) rfl (by kernel_rfl) rfl rfl ?_)
      intro w2 hw2
      have hk2 : w2.heap[wr.heap.size]? = some (.cells #[.int .i64 op, .string nm, .string tx, .int .i64 n] tStep (0, 0)) := hw2.at_
      have HB2 : Hid (Below wr.heap.size wr w2) := ((Below.refl _ wr).alloc (Nat.le_refl _) _).trans (hw2.below (Nat.le_refl _))
      have HK2 := Lib.hid hk2
      obtain ⟨sb, hsb⟩ : ∃ b, wr.heap.size = b := ⟨_, rfl⟩
      have HO2 := Lib.hid (HO.out.below HB2.out)
      have HBB : Hid (Below w1.heap.size w1 w2) := HB.out.trans (HB2.out.mono HB.out.size)
      have HLO : Hid (∀ q, (Value.slice co A.length cc).ownBlock = some q → q < wr.heap.size) := fun q e => (HO.out.low q e).2
      rw [hsb] at HK2 HLO
      have zs : sb < w2.heap.size := (Array.getElem?_eq_some_iff.1 HK2.out).1
      have HS5 : Hid (∀ W' : World, Below w2.heap.size w2 W' → W'.cell? ⟨sb, 0, none⟩ = some (.int .i64 op) ∧ W'.cell? ⟨sb, 1, none⟩ = some (.string nm) ∧ W'.cell? ⟨sb, 2, none⟩ = some (.string tx)) := fun W' hb =>
        have q := (hb.block _ zs).trans HK2.out
        ⟨cell_of_blk q 0, cell_of_blk q 1, cell_of_blk q 2⟩
      have HDR : Hid (Below w2.heap.size w2 w2.drew) := (Below.refl _ _).drew
      rw [hsb]
      clear hw2 hk2 HB2 hsb e0 e1 e2 e3 HO HB
      go_upto_region 5 with fail
      refine wp_region_Z (S := fun W' : World => W'.cell? ⟨sb, 0, none⟩ = some (.int .i64 op) ∧ W'.cell? ⟨sb, 1, none⟩ = some (.string nm) ∧ W'.cell? ⟨sb, 2, none⟩ = some (.string tx)) 14 (by kernel_rfl) (HS5.out _ HDR.out) (fun hHeld => ?_)
      refine ztk 0 ?_
      try simp only [Act.put, zA, zB, zC]
      refine ztk 1 ?_
      try simp only [Act.put, zA, zB, zC]
      refine ztk 2 ?_
      try simp only [Act.put, zA, zB, zC]
      refine ztk 3 ?_
      try simp only [Act.put, zA, zB, zC]
      refine ztk 4 ?_
      try simp only [Act.put, zA, zB, zC]
      refine ztk 5 ?_
      try simp only [Act.put, zA, zB, zC]
      refine ztk 7 ?_
      try simp only [Act.put, zA, zB, zC]
      refine ztk 8 ?_
      try simp only [Act.put, zA, zB, zC]
      refine wpAnyZ_oneL (i := 6) (by kernel_rfl) rfl (fun K hK => ?_)
      go_simp
      go_at_call 39
      refine (SN.out _).mono ?_
      rintro e w3 ⟨rfl, hb3⟩
      have HB3 := Lib.hid (HDR.out.trans (hb3.mono HDR.out.size))
      clear hb3
      refine hK.out _ _ (fun _ => HS5.out _ HB3.out) (fun hHeld => ?_)
      replace hHeld := hHeld (by decide)
      clear hK K
      try simp only [Act.put, zA, zB, zC]
      refine wpAnyZ_oneL (i := 9) (by kernel_rfl) rfl (fun K hK => ?_)
      go_simp
      go_at_call 39
      refine (SX.out _).mono ?_
      rintro e w4 ⟨rfl, hb4⟩
      have HB4 := Lib.hid (HB3.out.trans (hb4.mono HB3.out.size))
      clear hb4
      refine hK.out _ _ (fun _ => HS5.out _ HB4.out) (fun hHeld => ?_)
      replace hHeld := hHeld (by decide)
      clear hK K
      try simp only [Act.put, zA, zB, zC]
      refine wpAnyZ_oneL (i := 10) (by kernel_rfl) rfl (fun K hK => ?_)
      go_simp
      obtain ⟨w5, hw5⟩ : ∃ W, w4.alloc (.cells #[.int .u64 (ou : Nat), .int .u64 (sn : Nat), .int .u64 (sx : Nat)] tDig) = W := ⟨_, rfl⟩
      have hk5 : w5.heap[w4.heap.size]? = some (.cells #[.int .u64 (ou : Nat), .int .u64 (sn : Nat), .int .u64 (sx : Nat)] tDig (0, 0)) := by rw [← hw5]; exact hp_new rfl
      have HB5 : Hid (Below w2.heap.size w2 w5) := by unfold Hid; rw [← hw5]; exact HB4.out.alloc HB4.out.size _
      rw [hw5]
      clear hw5
      have OF4 := Lib.hid (OF.out w5 _ (ed_three hk5))
      clear hk5
      refine hK.out _ _ (fun _ => HS5.out _ HB5.out) (fun hHeld => ?_)
      replace hHeld := hHeld (by decide)
      clear hK K
      try simp only [Act.put, zA, zB, zC]
      refine wpAnyZ_oneL (i := 11) (by kernel_rfl) rfl (fun K hK => ?_)
      go_simp
      go_at_call 38
      refine OF4.out.mono ?_
      rintro e w6 ⟨rfl, hb6⟩
      have HB6 := Lib.hid (HB5.out.trans (hb6.mono HB5.out.size))
      clear hb6 OF4
      rw [← HSD.out]
      refine hK.out _ _ (fun _ => HS5.out _ HB6.out) (fun hHeld => ?_)
      replace hHeld := hHeld (by decide)
      clear hK K
      try simp only [Act.put, zA, zB, zC]
      refine wpAnyZ_oneL (i := 12) (by kernel_rfl) rfl (fun K hK => ?_)
      go_simp
      obtain ⟨w7, hw7⟩ : ∃ W, w6.alloc (.cells #[.int .u64 (sd : Nat)] tDig) = W := ⟨_, rfl⟩
      have hk7 : w7.heap[w6.heap.size]? = some (.cells #[.int .u64 (sd : Nat)] tDig (0, 0)) := by rw [← hw7]; exact hp_new rfl
      have HB7 : Hid (Below w2.heap.size w2 w7) := by unfold Hid; rw [← hw7]; exact HB6.out.alloc HB6.out.size _
      rw [hw7]
      clear hw7
      refine hK.out _ _ (fun _ => HS5.out _ HB7.out) (fun hHeld => ?_)
      replace hHeld := hHeld (by decide)
      clear hK K
      try simp only [Act.put, zA, zB, zC]
      refine wpAnyZ_oneL (i := 13) (by kernel_rfl) rfl (fun K hK => ?_)
      rw [if_pos (by rfl)]
      have HO7 := HO2.out.below HB7.out
      have hz7 := HB7.out.size
      have hzB := HBB.out.size
      refine wp_own_push (E := EDig) (.tmp 13) (.tmp 25) 117 rfl w1.heap.size tDig iD _ 8 Tryz.underlying117 HI.out hzD hnD hyD rfl A _ rfl HO7 sd [.int .u64 (sd : Nat)] rfl w6.heap.size (0, 0) hk7 rfl (by unfold maxLen; omega) (by omega) (by omega) ?_
      intro v8 w8 hown hgrow hpu
      obtain ⟨g8, p8, hv8⟩ := hpu.form
      subst hv8
      have HO8 := Lib.hid hown
      have HB8 : Hid (Below w1.heap.size w2 w8) := (HB7.out.mono hzB).trans (below_grown hgrow (by omega) (fun q e => (HO7.low q e).1))
      have HS8 : Hid (w8.cell? ⟨sb, 0, none⟩ = some (.int .i64 op) ∧ w8.cell? ⟨sb, 1, none⟩ = some (.string nm) ∧ w8.cell? ⟨sb, 2, none⟩ = some (.string tx)) := by
        have q := (hgrow.block sb (by omega) (fun e => by have := HLO.out sb e.symm; omega)).trans ((HB7.out.block _ zs).trans HK2.out)
        exact ⟨cell_of_blk q 0, cell_of_blk q 1, cell_of_blk q 2⟩
      clear hown hgrow hpu hk7 HO7
      refine hK.out _ _ (fun _ => HS8.out) (fun hHeld => ?_)
      replace hHeld := hHeld (by decide)
      clear hK K
      try simp only [Act.put, zA, zB, zC]
      refine wpAnyZ_oneL (i := 14) (by kernel_rfl) rfl (fun K hK => ?_)
      go_simp
      refine hK.out _ _ (fun h => absurd h (by decide)) (fun _ => ?_)
      clear hK K
      try simp only [Act.put, zA, zB, zC]
      refine wpAnyZ_done (by kernel_rfl) ?_ _
      clear hHeld
      go_wp2_with fail
      go_roundg (L.length - (i + 1))
      case measure => omega
      case rel => exact ⟨i + 1, by go_num, by omega, rfl, by rw [HF.out]; exact HO8.out, HBB.out.trans HB8.out⟩
    · have hii : ¬ (i : Int) < (L.length : Int) := by omega
      have he : i = L.length := by omega
      have HN : Hid ((L.take i).map stepD = L.map stepD) := by unfold Hid; rw [he, List.take_length]
      have HBF : Hid (beginF L = ofN [106, 111, 98] (L.map stepD)) := rfl
      have HLN : Hid ((L.map stepD).length ≤ 1000000) := by unfold Hid; rw [List.length_map]; omega
      have HD : Hid (∀ d ∈ L.map stepD, d < 18446744073709551616) := fun d hd => by
        obtain ⟨s, _, rfl⟩ := List.mem_map.1 hd
        exact stepD_lt s
      generalize (L.take i).map stepD = M at *
      rw [← HN.out] at HBF HLN HD
      have OF := Lib.hid (of_any ⟨#[106, 111, 98]⟩ M _ _ (by decide) HLN.out HD.out wr (HO.out.row (B' := fun _ => True) (fun _ _ => trivial) (fun _ _ => trivial)))
      clear he HO HD HN HLN
      go_wp2_with fail
      refine OF.out.mono ?_
      rintro e w5 ⟨rfl, hb⟩
      have HB5 := Lib.hid (HB.out.trans (hb.mono HB.out.size))
      clear hb OF
      go_wp2_with fail
      go_ret
      exact ⟨by rw [HBF.out] <;> rfl, HB1.out.trans (HB5.out.mono HB1.out.size)⟩
end Go.Proofs.YtghahghbahcpfaaGreatDoor
