/- The walk over the law's hidden. -/
import Derived.Test.YtghahghbahcpfaaGreatDoorSt7
import Derived.Test.YtghahghbahcpfaaGreatDoorVo3
import Derived.StillTailTactics
import Derived.Deep.DeepCutAuto
namespace Go.Proofs.YtghahghbahcpfaaGreatDoor
open Go.RowKit

/-- what the first statement of hidden leaves: three lists of its own in the block g -/
def HdRel (p0 : Nat) (w4 : World) (g : Nat) (d : Nat → Value) (v : ViewM) (s7 : Value) (wx : World) : Prop :=
  s7 = .pointer (some ⟨g, 0, none⟩) ∧ ∃ u0 u1 u2 : Value, HdS p0 g w4 #[u0, u1, u2, d 42, d 43, d 44, d 45, d 46, d 47] v (.ap u0) (.ap u1) (.ap u2) wx
/-- what hidden answers -/
def HiPost (j : JobM) (v x : ViewM) (w : World) (e : Ending) (w' : World) : Prop := ∃ a, e = .returned (viewA a) ∧ VAt w'.heap.size a (hiddenF (declF j.inputs) j v x) w' ∧ Below w.heap.size w w'
set_option maxRecDepth 100000 in
set_option maxHeartbeats 25600000 in
theorem hidden_any (c d x : Nat → Value) (j : JobM) (v vw : ViewM) (hJ : JB j) (hB : VB v) (hB2 : VB vw) (w : World) (hj : JAt w.heap.size c j w) (hv : VAt w.heap.size d v w) (hy : VAt w.heap.size x vw w) :
    Calls Tryz.prog 24 #[jobA c, viewA d, viewA x] w (HiPost j v vw w) := by
  obtain ⟨w1, hw1⟩ : ∃ w1, w.alloc (.cells (jobC c) tJob (0, 0)) = w1 := ⟨_, rfl⟩
  obtain ⟨w2, hw2⟩ : ∃ w2, w1.alloc (.cells (viewC d) tView (0, 0)) = w2 := ⟨_, rfl⟩
  obtain ⟨w3, hw3⟩ : ∃ w3, w2.alloc (.cells (viewC x) tView (0, 0)) = w3 := ⟨_, rfl⟩
  obtain ⟨w4, hw4⟩ : ∃ w4, w3.alloc (.cells view0C tView (0, 0)) = w4 := ⟨_, rfl⟩
  have hs1 : w1.heap.size = w.heap.size + 1 := by rw [← hw1]; simp
  have hs2 : w2.heap.size = w.heap.size + 1 + 1 := by rw [← hw2]; simp [hs1]
  have hs3 : w3.heap.size = w.heap.size + 1 + 1 + 1 := by rw [← hw3]; simp [hs2]
  have hs4 : w4.heap.size = w.heap.size + 1 + 1 + 1 + 1 := by rw [← hw4]; simp [hs3]
  have hk1 : w4.heap[w.heap.size]? = some (.cells (jobC c) tJob (0, 0)) := by rw [← hw4]; exact (hp_old (by omega)).trans (by rw [← hw3]; exact (hp_old (by omega)).trans (by rw [← hw2]; exact (hp_old (by omega)).trans (by rw [← hw1]; exact hp_new rfl)))
  have hk2 : w4.heap[w.heap.size + 1]? = some (.cells (viewC d) tView (0, 0)) := by rw [← hw4]; exact (hp_old (by omega)).trans (by rw [← hw3]; exact (hp_old (by omega)).trans (by rw [← hw2]; exact hp_new (by omega)))
  have hk3 : w4.heap[w.heap.size + 1 + 1]? = some (.cells (viewC x) tView (0, 0)) := by rw [← hw4]; exact (hp_old (by omega)).trans (by rw [← hw3]; exact hp_new (by omega))
  have hk4 : w4.heap[w.heap.size + 1 + 1 + 1]? = some (.cells view0C tView (0, 0)) := by rw [← hw4]; exact hp_new (by omega)
  have hb4 : Below w.heap.size w w4 := by rw [← hw4, ← hw3, ← hw2, ← hw1]; exact ((((Below.refl _ w).alloc (Nat.le_refl _) _).alloc (by simp) _).alloc (by simp; omega) _).alloc (by simp; omega) _
  have hv4 := hv.below hb4
  have hy4 := hy.below hb4
  have hj4 := hj.below hb4
  have HV1 := Lib.hid (view_one hv)
  obtain ⟨ro0, rc0, h39⟩ := hv.files.form
  obtain ⟨ro1, rc1, h40⟩ := hv.arts.form
  obtain ⟨ro2, rc2, h41⟩ := hv.secs.form
  obtain ⟨lo0, lc0, x39⟩ := hy.files.form
  obtain ⟨lo1, lc1, x40⟩ := hy.arts.form
  obtain ⟨lo2, lc2, x41⟩ := hy.secs.form
  obtain ⟨lo3, lc3, x42⟩ := hy.caches.form
  obtain ⟨lo6, lc6, x45⟩ := hy.times.form
  obtain ⟨lo7, lc7, x46⟩ := hy.ign.form
  have x47 := hy.att
  obtain ⟨io, ic, h24⟩ := hj.inputs.form
  obtain ⟨uo, uc, h25⟩ := hj.uses.form
  obtain ⟨qo, qc, h28⟩ := hj.secrets.form
  have HRV0 := Lib.hid hv4.files
  have HRV1 := Lib.hid hv4.arts
  have HRV2 := Lib.hid hv4.secs
  rw [h39] at HRV0
  rw [h40] at HRV1
  rw [h41] at HRV2
  have HRW0 := Lib.hid hy4.files
  have HRW1 := Lib.hid hy4.arts
  have HRW2 := Lib.hid hy4.secs
  rw [x39] at HRW0
  rw [x40] at HRW1
  rw [x41] at HRW2
  have HRW3 := Lib.hid hy4.caches
  have HRW6 := Lib.hid hy4.times
  have HRW7 := Lib.hid hy4.ign
  rw [x42] at HRW3
  rw [x45] at HRW6
  rw [x46] at HRW7
  have HV4 := Lib.hid hv4
  obtain ⟨g, hg⟩ : ∃ g, w4.heap.size = g := ⟨_, rfl⟩
  have hcl : ∀ W, Below g w4 W → W.heap[w.heap.size]? = some (.cells (jobC c) tJob (0, 0)) ∧ W.heap[w.heap.size + 1]? = some (.cells (viewC d) tView (0, 0)) ∧ W.heap[w.heap.size + 1 + 1]? = some (.cells (viewC x) tView (0, 0)) := fun W hb => ⟨(hb.block _ (by omega)).trans hk1, (hb.block _ (by omega)).trans hk2, (hb.block _ (by omega)).trans hk3⟩
  have HCV : Hid (∀ W, Below g w4 W → W.cell? ⟨w.heap.size + 1, 0, none⟩ = some (.slice ro0 v.files.length rc0) ∧ W.cell? ⟨w.heap.size + 1, 1, none⟩ = some (.slice ro1 v.arts.length rc1) ∧ W.cell? ⟨w.heap.size + 1, 2, none⟩ = some (.slice ro2 v.secs.length rc2)) := fun W hb => ⟨by rw [← h39]; exact cell_of_blk (hcl W hb).2.1 0, by rw [← h40]; exact cell_of_blk (hcl W hb).2.1 1, by rw [← h41]; exact cell_of_blk (hcl W hb).2.1 2⟩
  have HC0 : Hid (∀ W, Below g w4 W → W.cell? ⟨w.heap.size + 1 + 1, 0, none⟩ = some (.slice lo0 vw.files.length lc0) ∧ W.rangeAt w.heap.size 0 (jobL c)) := fun W hb => ⟨by rw [← x39]; exact cell_of_blk (hcl W hb).2.2 0, range_job (hcl W hb).1⟩
  have HC1 : Hid (∀ W, Below g w4 W → W.cell? ⟨w.heap.size + 1 + 1, 1, none⟩ = some (.slice lo1 vw.arts.length lc1) ∧ W.cell? ⟨w.heap.size, 25, none⟩ = some (.slice uo j.uses.length uc)) := fun W hb => ⟨by rw [← x40]; exact cell_of_blk (hcl W hb).2.2 1, by rw [← h25]; exact cell_of_blk (hcl W hb).1 25⟩
  have HC2 : Hid (∀ W, Below g w4 W → W.cell? ⟨w.heap.size + 1 + 1, 2, none⟩ = some (.slice lo2 vw.secs.length lc2) ∧ W.cell? ⟨w.heap.size, 28, none⟩ = some (.slice qo j.secrets.length qc)) := fun W hb => ⟨by rw [← x41]; exact cell_of_blk (hcl W hb).2.2 2, by rw [← h28]; exact cell_of_blk (hcl W hb).1 28⟩
  have HC3 : Hid (∀ W, Below g w4 W → W.cell? ⟨w.heap.size + 1 + 1, 3, none⟩ = some (.slice lo3 vw.caches.length lc3) ∧ W.cell? ⟨w.heap.size + 1 + 1, 6, none⟩ = some (.slice lo6 vw.times.length lc6) ∧ W.cell? ⟨w.heap.size + 1 + 1, 7, none⟩ = some (.slice lo7 vw.ignored.length lc7) ∧ W.cell? ⟨w.heap.size + 1 + 1, 8, none⟩ = some (.int .i64 vw.attempt)) := fun W hb => ⟨by rw [← x42]; exact cell_of_blk (hcl W hb).2.2 3, by rw [← x45]; exact cell_of_blk (hcl W hb).2.2 6, by rw [← x46]; exact cell_of_blk (hcl W hb).2.2 7, by rw [← x47]; exact cell_of_blk (hcl W hb).2.2 8⟩
  have DCL : Hid (∀ W p, p.size ≤ 10000 → Below g w4 W → Calls Tryz.prog 19 #[jobA c, .string p] W fun e w' => e = .returned (.bool (declF j.inputs p)) ∧ Below W.heap.size W w') := fun W p hp hb => by
    have h1 := (hj4.below (hb.mono (by omega))).inputs
    rw [h24] at h1
    exact decl_any c j.inputs io ic p _ (by omega) hJ.inputs hJ.inputN h24 W h1
  have HAS1 : Hid (∀ W k, Below g w4 W → Calls Tryz.prog 27 #[.slice uo j.uses.length uc, .string k] W fun e w' => e = .returned (.bool (j.uses.contains k)) ∧ w' = W) := fun W k hb => by
    have h1 := (hj4.below (hb.mono (by omega))).uses
    rw [h25] at h1
    exact rhas_any k _ j.uses _ (by have := hJ.uses; omega) W h1
  have HAS2 : Hid (∀ W k, Below g w4 W → Calls Tryz.prog 27 #[.slice qo j.secrets.length qc, .string k] W fun e w' => e = .returned (.bool (j.secrets.contains k)) ∧ w' = W) := fun W k hb => by
    have h1 := (hj4.below (hb.mono (by omega))).secrets
    rw [h28] at h1
    exact rhas_any k _ j.secrets _ (by have := hJ.secrets; omega) W h1
  have HFN := Lib.hid hB2.fileN
  have HAN := Lib.hid hB2.artN
  have HSN := Lib.hid hB2.secN
  have zF := hB2.files
  have zA := hB2.arts
  have zS := hB2.secs
  have zF1 := hB.files
  have zA1 := hB.arts
  have zS1 := hB.secs
  have HB4 := Lib.hid hb4
  have HK4 := Lib.hid hk4
  have HW1 := Lib.hid hw1
  have HW2 := Lib.hid hw2
  have HW3 := Lib.hid hw3
  have HW4 := Lib.hid hw4
  have HRG := Lib.hid (range_view hk2)
  have hg3 := Nat.le_of_eq hg
  have hg4 := Nat.le_of_eq hg.symm
  have hsz := Nat.le_of_eq hs4
  have hsz2 := Nat.le_of_eq hs4.symm
  obtain ⟨iK0, hI0, hz0, hn0, hy0⟩ := Tryz.infoFile'
  obtain ⟨iK1, hI1, hz1, hn1, hy1⟩ := Tryz.infoOut'
  obtain ⟨iK2, hI2, hz2, hn2, hy2⟩ := Tryz.infoSec'
  have HI0 := Lib.hid hI0
  have HI1 := Lib.hid hI1
  have HI2 := Lib.hid hI2
  clear hv hy hj hJ hB hB2 hk1 hk2 hk3 hk4 hb4 hw1 hw2 hw3 hw4 hs1 hs2 hs3 hs4 h39 h40 h41 x39 x40 x41 x42 x45 x46 x47 h24 h25 h28 hv4 hy4 hj4 hcl hI0 hI1 hI2
  go_enter Tryz.func24, Tryz.ntmps24
  go_upto_region 1 with fail
  rw [HW1.out, HW2.out, HW3.out, HW4.out]
  clear HW1 HW2 HW3 HW4
  refine wp_region_lit ?_
  refine wpList_load_mid rfl tView (.tmp 4) rfl (w.heap.size + 1) 0 rfl (viewL d) _ HRG.out Tryz.underlying45 rfl (by kernel_rfl) ?_
  try simp only [Act.put, List.setIfInBounds_toArray, List.set_cons_zero, List.set_cons_succ]
  go_wp2_with (refine wpList_store_row rfl tView _ _ rfl g rfl tView _ (hp_new (by omega)) (.agg (viewC d)) rfl (by kernel_rfl) rfl HV1.out ?_)
  intro w5 hw5
  have hk5 : w5.heap[g]? = some (.cells (viewC d) tView (0, 0)) := hw5.at_
  have hb5 : Below g w4 w5 := ((Below.refl _ w4).alloc (by omega) _).trans (hw5.below (Nat.le_refl _))
  have HB5 := Lib.hid hb5
  have HK5 := Lib.hid hk5
  have zg5 : g < w5.heap.size := (Array.getElem?_eq_some_iff.1 hk5).1
  clear hw5 hb5 hk5 hg HRG HV1
  go_upto_region 2 with fail
  go_cut [7] (HdRel w.heap.size w4 g d v)
  case first =>
    have HS : Hid (HdS w.heap.size g w4 (viewC d) v .no .no .no w5.drew) := ⟨by omega, HK5.out, HB5.out.drew, trivial, trivial, trivial⟩
    refine wp_region_Z (S := fun W' : World => W'.cell? ⟨w.heap.size + 1, 0, none⟩ = some (.slice ro0 v.files.length rc0) ∧ W'.cell? ⟨w.heap.size + 1, 1, none⟩ = some (.slice ro1 v.arts.length rc1) ∧ W'.cell? ⟨w.heap.size + 1, 2, none⟩ = some (.slice ro2 v.secs.length rc2)) 18 (by kernel_rfl) (HCV.out _ HS.out.bel) (fun hHeld => ?_)
    generalize w5.drew = w60 at HS hHeld ⊢
    clear HK5 HB5
    refine ztk 1 ?_
    try simp only [Act.put, List.setIfInBounds_toArray, List.set_cons_zero, List.set_cons_succ]
    refine ztk 2 ?_
    try simp only [Act.put, List.setIfInBounds_toArray, List.set_cons_zero, List.set_cons_succ]
    refine ztk 5 ?_
    try simp only [Act.put, List.setIfInBounds_toArray, List.set_cons_zero, List.set_cons_succ]
    refine ztk 6 ?_
    try simp only [Act.put, List.setIfInBounds_toArray, List.set_cons_zero, List.set_cons_succ]
    refine ztk 9 ?_
    try simp only [Act.put, List.setIfInBounds_toArray, List.set_cons_zero, List.set_cons_succ]
    refine ztk 10 ?_
    try simp only [Act.put, List.setIfInBounds_toArray, List.set_cons_zero, List.set_cons_succ]
    refine wpAnyZ_three (i := 0) (j := 4) (k := 8) (by kernel_rfl) rfl rfl rfl (fun K hK => ?_) (fun K hK => ?_) (fun K hK => ?_)
    · go_simp
      obtain ⟨w61, hw⟩ : ∃ W, World.alloc w60 (.cells #[] tFile) = W := ⟨_, rfl⟩
      rw [hw]
      replace HS := Lib.hid (HS.out.b0 hw)
      generalize w60.heap.size = p0 at HS ⊢
      clear hw
      refine hK.out _ _ (fun _ => HCV.out _ HS.out.bel) (fun hHeld => ?_)
      replace hHeld := hHeld (by decide)
      clear hK K
      try simp only [Act.put, List.setIfInBounds_toArray, List.set_cons_zero, List.set_cons_succ]
      refine wpAnyZ_three (i := 3) (j := 4) (k := 8) (by kernel_rfl) rfl rfl rfl (fun K hK => ?_) (fun K hK => ?_) (fun K hK => ?_)
      · rw [if_pos (by rfl)]
        refine HS.out.a0 zF1 HRV0.out (.tmp 12) (.tmp 14) rfl rfl rfl ?_
        intro u0 w62 hs
        replace HS := Lib.hid hs
        clear hs
        refine hK.out _ _ (fun _ => HCV.out _ HS.out.bel) (fun hHeld => ?_)
        replace hHeld := hHeld (by decide)
        clear hK K
        try simp only [Act.put, List.setIfInBounds_toArray, List.set_cons_zero, List.set_cons_succ]
        refine ztk 12 ?_
        try simp only [Act.put, List.setIfInBounds_toArray, List.set_cons_zero, List.set_cons_succ]
        refine wpAnyZ_two (i := 4) (j := 8) (by kernel_rfl) rfl rfl (fun K hK => ?_) (fun K hK => ?_)
        · go_simp
          obtain ⟨w63, hw⟩ : ∃ W, World.alloc w62 (.cells #[] tOut) = W := ⟨_, rfl⟩
          rw [hw]
          replace HS := Lib.hid (HS.out.b1 hw)
          generalize w62.heap.size = p1 at HS ⊢
          clear hw
          refine hK.out _ _ (fun _ => HCV.out _ HS.out.bel) (fun hHeld => ?_)
          replace hHeld := hHeld (by decide)
          clear hK K
          try simp only [Act.put, List.setIfInBounds_toArray, List.set_cons_zero, List.set_cons_succ]
          refine wpAnyZ_two (i := 7) (j := 8) (by kernel_rfl) rfl rfl (fun K hK => ?_) (fun K hK => ?_)
          · rw [if_pos (by rfl)]
            refine HS.out.a1 zA1 HRV1.out (.tmp 16) (.tmp 18) rfl rfl rfl ?_
            intro u1 w64 hs
            replace HS := Lib.hid hs
            clear hs
            refine hK.out _ _ (fun _ => HCV.out _ HS.out.bel) (fun hHeld => ?_)
            replace hHeld := hHeld (by decide)
            clear hK K
            try simp only [Act.put, List.setIfInBounds_toArray, List.set_cons_zero, List.set_cons_succ]
            refine wpAnyZ_oneL (i := 8) (by kernel_rfl) rfl (fun K hK => ?_)
            go_simp
            obtain ⟨w65, hw⟩ : ∃ W, World.alloc w64 (.cells #[] tSec) = W := ⟨_, rfl⟩
            rw [hw]
            replace HS := Lib.hid (HS.out.b2 hw)
            generalize w64.heap.size = p2 at HS ⊢
            clear hw
            refine hK.out _ _ (fun _ => HCV.out _ HS.out.bel) (fun hHeld => ?_)
            replace hHeld := hHeld (by decide)
            clear hK K
            try simp only [Act.put, List.setIfInBounds_toArray, List.set_cons_zero, List.set_cons_succ]
            refine wpAnyZ_oneL (i := 11) (by kernel_rfl) rfl (fun K hK => ?_)
            rw [if_pos (by rfl)]
            refine HS.out.a2 zS1 HRV2.out (.tmp 20) (.tmp 22) rfl rfl rfl ?_
            intro u2 w66 hs
            replace HS := Lib.hid hs
            clear hs
            refine hK.out _ _ (fun _ => HCV.out _ HS.out.bel) (fun hHeld => ?_)
            replace hHeld := hHeld (by decide)
            clear hK K
            try simp only [Act.put, List.setIfInBounds_toArray, List.set_cons_zero, List.set_cons_succ]
            obtain ⟨a0, k0, rfl⟩ := HS.out.form0
            obtain ⟨a1, k1, rfl⟩ := HS.out.form1
            obtain ⟨a2, k2, rfl⟩ := HS.out.form2
            have c9 : w66.cell? ⟨g, 0, none⟩ = some (d 39) := cell_of_blk HS.out.blk 0
            have f9 := free_of_blk HS.out.blk 0
            have hwr := wrote_setCell HS.out.blk 0 (.slice a0 v.files.length k0)
            refine wpAnyZ_oneL (i := 13) (by kernel_rfl) rfl (fun K hK => ?_)
            go_simp
            obtain ⟨w67, hw⟩ : ∃ W, World.setCell w66 ⟨g, 0, none⟩ (.slice a0 v.files.length k0) = W := ⟨_, rfl⟩
            rw [hw] at hwr
            rw [hw]
            replace HS := Lib.hid (HS.out.st 0 (.slice a0 v.files.length k0) hwr)
            clear hw hwr c9 f9
            refine hK.out _ _ (fun _ => HCV.out _ HS.out.bel) (fun hHeld => ?_)
            replace hHeld := hHeld (by decide)
            clear hK K
            try simp only [Act.put]
            refine ztk 14 ?_
            try simp only [Act.put, List.setIfInBounds_toArray, List.set_cons_zero, List.set_cons_succ]
            have c9 : w67.cell? ⟨g, 1, none⟩ = some (d 40) := cell_of_blk HS.out.blk 1
            have f9 := free_of_blk HS.out.blk 1
            have hwr := wrote_setCell HS.out.blk 1 (.slice a1 v.arts.length k1)
            refine wpAnyZ_oneL (i := 15) (by kernel_rfl) rfl (fun K hK => ?_)
            go_simp
            obtain ⟨w68, hw⟩ : ∃ W, World.setCell w67 ⟨g, 1, none⟩ (.slice a1 v.arts.length k1) = W := ⟨_, rfl⟩
            rw [hw] at hwr
            rw [hw]
            replace HS := Lib.hid (HS.out.st 1 (.slice a1 v.arts.length k1) hwr)
            clear hw hwr c9 f9
            refine hK.out _ _ (fun _ => HCV.out _ HS.out.bel) (fun hHeld => ?_)
            replace hHeld := hHeld (by decide)
            clear hK K
            try simp only [Act.put]
            refine ztk 16 ?_
            try simp only [Act.put, List.setIfInBounds_toArray, List.set_cons_zero, List.set_cons_succ]
            have c9 : w68.cell? ⟨g, 2, none⟩ = some (d 41) := cell_of_blk HS.out.blk 2
            have f9 := free_of_blk HS.out.blk 2
            have hwr := wrote_setCell HS.out.blk 2 (.slice a2 v.secs.length k2)
            refine wpAnyZ_oneL (i := 17) (by kernel_rfl) rfl (fun K hK => ?_)
            go_simp
            obtain ⟨w69, hw⟩ : ∃ W, World.setCell w68 ⟨g, 2, none⟩ (.slice a2 v.secs.length k2) = W := ⟨_, rfl⟩
            rw [hw] at hwr
            rw [hw]
            replace HS := Lib.hid (HS.out.st 2 (.slice a2 v.secs.length k2) hwr)
            clear hw hwr c9 f9
            refine hK.out _ _ (fun _ => HCV.out _ HS.out.bel) (fun hHeld => ?_)
            replace hHeld := hHeld (by decide)
            clear hK K
            try simp only [Act.put]
            refine wpAnyZ_done (by kernel_rfl) ?_ _
            clear hHeld
            as_aux_lemma =>
            go_wp2_with fail
            go_meet
            exact ⟨rfl, _, _, _, HS.out⟩
          · go_simp
            obtain ⟨w70, hw⟩ : ∃ W, World.alloc w63 (.cells #[] tSec) = W := ⟨_, rfl⟩
            rw [hw]
            replace HS := Lib.hid (HS.out.b2 hw)
            generalize w63.heap.size = p2 at HS ⊢
            clear hw
            refine hK.out _ _ (fun _ => HCV.out _ HS.out.bel) (fun hHeld => ?_)
            replace hHeld := hHeld (by decide)
            clear hK K
            try simp only [Act.put, List.setIfInBounds_toArray, List.set_cons_zero, List.set_cons_succ]
            refine wpAnyZ_oneL (i := 7) (by kernel_rfl) rfl (fun K hK => ?_)
            rw [if_pos (by rfl)]
            refine HS.out.a1 zA1 HRV1.out (.tmp 16) (.tmp 18) rfl rfl rfl ?_
            intro u1 w71 hs
            replace HS := Lib.hid hs
            clear hs
            refine hK.out _ _ (fun _ => HCV.out _ HS.out.bel) (fun hHeld => ?_)
            replace hHeld := hHeld (by decide)
            clear hK K
            try simp only [Act.put, List.setIfInBounds_toArray, List.set_cons_zero, List.set_cons_succ]
            refine wpAnyZ_oneL (i := 11) (by kernel_rfl) rfl (fun K hK => ?_)
            rw [if_pos (by rfl)]
            refine HS.out.a2 zS1 HRV2.out (.tmp 20) (.tmp 22) rfl rfl rfl ?_
            intro u2 w72 hs
            replace HS := Lib.hid hs
            clear hs
            refine hK.out _ _ (fun _ => HCV.out _ HS.out.bel) (fun hHeld => ?_)
            replace hHeld := hHeld (by decide)
            clear hK K
            try simp only [Act.put, List.setIfInBounds_toArray, List.set_cons_zero, List.set_cons_succ]
            obtain ⟨a0, k0, rfl⟩ := HS.out.form0
            obtain ⟨a1, k1, rfl⟩ := HS.out.form1
            obtain ⟨a2, k2, rfl⟩ := HS.out.form2
            have c9 : w72.cell? ⟨g, 0, none⟩ = some (d 39) := cell_of_blk HS.out.blk 0
            have f9 := free_of_blk HS.out.blk 0
            have hwr := wrote_setCell HS.out.blk 0 (.slice a0 v.files.length k0)
            refine wpAnyZ_oneL (i := 13) (by kernel_rfl) rfl (fun K hK => ?_)
            go_simp
            obtain ⟨w73, hw⟩ : ∃ W, World.setCell w72 ⟨g, 0, none⟩ (.slice a0 v.files.length k0) = W := ⟨_, rfl⟩
            rw [hw] at hwr
            rw [hw]
            replace HS := Lib.hid (HS.out.st 0 (.slice a0 v.files.length k0) hwr)
            clear hw hwr c9 f9
            refine hK.out _ _ (fun _ => HCV.out _ HS.out.bel) (fun hHeld => ?_)
            replace hHeld := hHeld (by decide)
            clear hK K
            try simp only [Act.put]
            refine ztk 14 ?_
            try simp only [Act.put, List.setIfInBounds_toArray, List.set_cons_zero, List.set_cons_succ]
            have c9 : w73.cell? ⟨g, 1, none⟩ = some (d 40) := cell_of_blk HS.out.blk 1
            have f9 := free_of_blk HS.out.blk 1
            have hwr := wrote_setCell HS.out.blk 1 (.slice a1 v.arts.length k1)
            refine wpAnyZ_oneL (i := 15) (by kernel_rfl) rfl (fun K hK => ?_)
            go_simp
            obtain ⟨w74, hw⟩ : ∃ W, World.setCell w73 ⟨g, 1, none⟩ (.slice a1 v.arts.length k1) = W := ⟨_, rfl⟩
            rw [hw] at hwr
            rw [hw]
            replace HS := Lib.hid (HS.out.st 1 (.slice a1 v.arts.length k1) hwr)
            clear hw hwr c9 f9
            refine hK.out _ _ (fun _ => HCV.out _ HS.out.bel) (fun hHeld => ?_)
            replace hHeld := hHeld (by decide)
            clear hK K
            try simp only [Act.put]
            refine ztk 16 ?_
            try simp only [Act.put, List.setIfInBounds_toArray, List.set_cons_zero, List.set_cons_succ]
            have c9 : w74.cell? ⟨g, 2, none⟩ = some (d 41) := cell_of_blk HS.out.blk 2
            have f9 := free_of_blk HS.out.blk 2
            have hwr := wrote_setCell HS.out.blk 2 (.slice a2 v.secs.length k2)
            refine wpAnyZ_oneL (i := 17) (by kernel_rfl) rfl (fun K hK => ?_)
            go_simp
            obtain ⟨w75, hw⟩ : ∃ W, World.setCell w74 ⟨g, 2, none⟩ (.slice a2 v.secs.length k2) = W := ⟨_, rfl⟩
            rw [hw] at hwr
            rw [hw]
            replace HS := Lib.hid (HS.out.st 2 (.slice a2 v.secs.length k2) hwr)
            clear hw hwr c9 f9
            refine hK.out _ _ (fun _ => HCV.out _ HS.out.bel) (fun hHeld => ?_)
            replace hHeld := hHeld (by decide)
            clear hK K
            try simp only [Act.put]
            refine wpAnyZ_done (by kernel_rfl) ?_ _
            clear hHeld
            as_aux_lemma =>
            go_wp2_with fail
            go_meet
            exact ⟨rfl, _, _, _, HS.out⟩
        · go_simp
          obtain ⟨w76, hw⟩ : ∃ W, World.alloc w62 (.cells #[] tSec) = W := ⟨_, rfl⟩
          rw [hw]
          replace HS := Lib.hid (HS.out.b2 hw)
          generalize w62.heap.size = p2 at HS ⊢
          clear hw
          refine hK.out _ _ (fun _ => HCV.out _ HS.out.bel) (fun hHeld => ?_)
          replace hHeld := hHeld (by decide)
          clear hK K
          try simp only [Act.put, List.setIfInBounds_toArray, List.set_cons_zero, List.set_cons_succ]
          refine wpAnyZ_oneL (i := 4) (by kernel_rfl) rfl (fun K hK => ?_)
          go_simp
          obtain ⟨w77, hw⟩ : ∃ W, World.alloc w76 (.cells #[] tOut) = W := ⟨_, rfl⟩
          rw [hw]
          replace HS := Lib.hid (HS.out.b1 hw)
          generalize w76.heap.size = p1 at HS ⊢
          clear hw
          refine hK.out _ _ (fun _ => HCV.out _ HS.out.bel) (fun hHeld => ?_)
          replace hHeld := hHeld (by decide)
          clear hK K
          try simp only [Act.put, List.setIfInBounds_toArray, List.set_cons_zero, List.set_cons_succ]
          refine wpAnyZ_oneL (i := 7) (by kernel_rfl) rfl (fun K hK => ?_)
          rw [if_pos (by rfl)]
          refine HS.out.a1 zA1 HRV1.out (.tmp 16) (.tmp 18) rfl rfl rfl ?_
          intro u1 w78 hs
          replace HS := Lib.hid hs
          clear hs
          refine hK.out _ _ (fun _ => HCV.out _ HS.out.bel) (fun hHeld => ?_)
          replace hHeld := hHeld (by decide)
          clear hK K
          try simp only [Act.put, List.setIfInBounds_toArray, List.set_cons_zero, List.set_cons_succ]
          refine wpAnyZ_oneL (i := 11) (by kernel_rfl) rfl (fun K hK => ?_)
          rw [if_pos (by rfl)]
          refine HS.out.a2 zS1 HRV2.out (.tmp 20) (.tmp 22) rfl rfl rfl ?_
          intro u2 w79 hs
          replace HS := Lib.hid hs
          clear hs
          refine hK.out _ _ (fun _ => HCV.out _ HS.out.bel) (fun hHeld => ?_)
          replace hHeld := hHeld (by decide)
          clear hK K
          try simp only [Act.put, List.setIfInBounds_toArray, List.set_cons_zero, List.set_cons_succ]
          obtain ⟨a0, k0, rfl⟩ := HS.out.form0
          obtain ⟨a1, k1, rfl⟩ := HS.out.form1
          obtain ⟨a2, k2, rfl⟩ := HS.out.form2
          have c9 : w79.cell? ⟨g, 0, none⟩ = some (d 39) := cell_of_blk HS.out.blk 0
          have f9 := free_of_blk HS.out.blk 0
          have hwr := wrote_setCell HS.out.blk 0 (.slice a0 v.files.length k0)
          refine wpAnyZ_oneL (i := 13) (by kernel_rfl) rfl (fun K hK => ?_)
          go_simp
          obtain ⟨w80, hw⟩ : ∃ W, World.setCell w79 ⟨g, 0, none⟩ (.slice a0 v.files.length k0) = W := ⟨_, rfl⟩
          rw [hw] at hwr
          rw [hw]
          replace HS := Lib.hid (HS.out.st 0 (.slice a0 v.files.length k0) hwr)
          clear hw hwr c9 f9
          refine hK.out _ _ (fun _ => HCV.out _ HS.out.bel) (fun hHeld => ?_)
          replace hHeld := hHeld (by decide)
          clear hK K
          try simp only [Act.put]
          refine ztk 14 ?_
          try simp only [Act.put, List.setIfInBounds_toArray, List.set_cons_zero, List.set_cons_succ]
          have c9 : w80.cell? ⟨g, 1, none⟩ = some (d 40) := cell_of_blk HS.out.blk 1
          have f9 := free_of_blk HS.out.blk 1
          have hwr := wrote_setCell HS.out.blk 1 (.slice a1 v.arts.length k1)
          refine wpAnyZ_oneL (i := 15) (by kernel_rfl) rfl (fun K hK => ?_)
          go_simp
          obtain ⟨w81, hw⟩ : ∃ W, World.setCell w80 ⟨g, 1, none⟩ (.slice a1 v.arts.length k1) = W := ⟨_, rfl⟩
          rw [hw] at hwr
          rw [hw]
          replace HS := Lib.hid (HS.out.st 1 (.slice a1 v.arts.length k1) hwr)
          clear hw hwr c9 f9
          refine hK.out _ _ (fun _ => HCV.out _ HS.out.bel) (fun hHeld => ?_)
          replace hHeld := hHeld (by decide)
          clear hK K
          try simp only [Act.put]
          refine ztk 16 ?_
          try simp only [Act.put, List.setIfInBounds_toArray, List.set_cons_zero, List.set_cons_succ]
          have c9 : w81.cell? ⟨g, 2, none⟩ = some (d 41) := cell_of_blk HS.out.blk 2
          have f9 := free_of_blk HS.out.blk 2
          have hwr := wrote_setCell HS.out.blk 2 (.slice a2 v.secs.length k2)
          refine wpAnyZ_oneL (i := 17) (by kernel_rfl) rfl (fun K hK => ?_)
          go_simp
          obtain ⟨w82, hw⟩ : ∃ W, World.setCell w81 ⟨g, 2, none⟩ (.slice a2 v.secs.length k2) = W := ⟨_, rfl⟩
          rw [hw] at hwr
          rw [hw]
          replace HS := Lib.hid (HS.out.st 2 (.slice a2 v.secs.length k2) hwr)
          clear hw hwr c9 f9
          refine hK.out _ _ (fun _ => HCV.out _ HS.out.bel) (fun hHeld => ?_)
          replace hHeld := hHeld (by decide)
          clear hK K
          try simp only [Act.put]
          refine wpAnyZ_done (by kernel_rfl) ?_ _
          clear hHeld
          as_aux_lemma =>
          go_wp2_with fail
          go_meet
          exact ⟨rfl, _, _, _, HS.out⟩
      · go_simp
        obtain ⟨w83, hw⟩ : ∃ W, World.alloc w61 (.cells #[] tOut) = W := ⟨_, rfl⟩
        rw [hw]
        replace HS := Lib.hid (HS.out.b1 hw)
        generalize w61.heap.size = p1 at HS ⊢
        clear hw
        refine hK.out _ _ (fun _ => HCV.out _ HS.out.bel) (fun hHeld => ?_)
        replace hHeld := hHeld (by decide)
        clear hK K
        try simp only [Act.put, List.setIfInBounds_toArray, List.set_cons_zero, List.set_cons_succ]
        refine wpAnyZ_two (i := 3) (j := 8) (by kernel_rfl) rfl rfl (fun K hK => ?_) (fun K hK => ?_)
        · rw [if_pos (by rfl)]
          refine HS.out.a0 zF1 HRV0.out (.tmp 12) (.tmp 14) rfl rfl rfl ?_
          intro u0 w84 hs
          replace HS := Lib.hid hs
          clear hs
          refine hK.out _ _ (fun _ => HCV.out _ HS.out.bel) (fun hHeld => ?_)
          replace hHeld := hHeld (by decide)
          clear hK K
          try simp only [Act.put, List.setIfInBounds_toArray, List.set_cons_zero, List.set_cons_succ]
          refine ztk 12 ?_
          try simp only [Act.put, List.setIfInBounds_toArray, List.set_cons_zero, List.set_cons_succ]
          refine wpAnyZ_two (i := 7) (j := 8) (by kernel_rfl) rfl rfl (fun K hK => ?_) (fun K hK => ?_)
          · rw [if_pos (by rfl)]
            refine HS.out.a1 zA1 HRV1.out (.tmp 16) (.tmp 18) rfl rfl rfl ?_
            intro u1 w85 hs
            replace HS := Lib.hid hs
            clear hs
            refine hK.out _ _ (fun _ => HCV.out _ HS.out.bel) (fun hHeld => ?_)
            replace hHeld := hHeld (by decide)
            clear hK K
            try simp only [Act.put, List.setIfInBounds_toArray, List.set_cons_zero, List.set_cons_succ]
            refine wpAnyZ_oneL (i := 8) (by kernel_rfl) rfl (fun K hK => ?_)
            go_simp
            obtain ⟨w86, hw⟩ : ∃ W, World.alloc w85 (.cells #[] tSec) = W := ⟨_, rfl⟩
            rw [hw]
            replace HS := Lib.hid (HS.out.b2 hw)
            generalize w85.heap.size = p2 at HS ⊢
            clear hw
            refine hK.out _ _ (fun _ => HCV.out _ HS.out.bel) (fun hHeld => ?_)
            replace hHeld := hHeld (by decide)
            clear hK K
            try simp only [Act.put, List.setIfInBounds_toArray, List.set_cons_zero, List.set_cons_succ]
            refine wpAnyZ_oneL (i := 11) (by kernel_rfl) rfl (fun K hK => ?_)
            rw [if_pos (by rfl)]
            refine HS.out.a2 zS1 HRV2.out (.tmp 20) (.tmp 22) rfl rfl rfl ?_
            intro u2 w87 hs
            replace HS := Lib.hid hs
            clear hs
            refine hK.out _ _ (fun _ => HCV.out _ HS.out.bel) (fun hHeld => ?_)
            replace hHeld := hHeld (by decide)
            clear hK K
            try simp only [Act.put, List.setIfInBounds_toArray, List.set_cons_zero, List.set_cons_succ]
            obtain ⟨a0, k0, rfl⟩ := HS.out.form0
            obtain ⟨a1, k1, rfl⟩ := HS.out.form1
            obtain ⟨a2, k2, rfl⟩ := HS.out.form2
            have c9 : w87.cell? ⟨g, 0, none⟩ = some (d 39) := cell_of_blk HS.out.blk 0
            have f9 := free_of_blk HS.out.blk 0
            have hwr := wrote_setCell HS.out.blk 0 (.slice a0 v.files.length k0)
            refine wpAnyZ_oneL (i := 13) (by kernel_rfl) rfl (fun K hK => ?_)
            go_simp
            obtain ⟨w88, hw⟩ : ∃ W, World.setCell w87 ⟨g, 0, none⟩ (.slice a0 v.files.length k0) = W := ⟨_, rfl⟩
            rw [hw] at hwr
            rw [hw]
            replace HS := Lib.hid (HS.out.st 0 (.slice a0 v.files.length k0) hwr)
            clear hw hwr c9 f9
            refine hK.out _ _ (fun _ => HCV.out _ HS.out.bel) (fun hHeld => ?_)
            replace hHeld := hHeld (by decide)
            clear hK K
            try simp only [Act.put]
            refine ztk 14 ?_
            try simp only [Act.put, List.setIfInBounds_toArray, List.set_cons_zero, List.set_cons_succ]
            have c9 : w88.cell? ⟨g, 1, none⟩ = some (d 40) := cell_of_blk HS.out.blk 1
            have f9 := free_of_blk HS.out.blk 1
            have hwr := wrote_setCell HS.out.blk 1 (.slice a1 v.arts.length k1)
            refine wpAnyZ_oneL (i := 15) (by kernel_rfl) rfl (fun K hK => ?_)
            go_simp
            obtain ⟨w89, hw⟩ : ∃ W, World.setCell w88 ⟨g, 1, none⟩ (.slice a1 v.arts.length k1) = W := ⟨_, rfl⟩
            rw [hw] at hwr
            rw [hw]
            replace HS := Lib.hid (HS.out.st 1 (.slice a1 v.arts.length k1) hwr)
            clear hw hwr c9 f9
            refine hK.out _ _ (fun _ => HCV.out _ HS.out.bel) (fun hHeld => ?_)
            replace hHeld := hHeld (by decide)
            clear hK K
            try simp only [Act.put]
            refine ztk 16 ?_
            try simp only [Act.put, List.setIfInBounds_toArray, List.set_cons_zero, List.set_cons_succ]
            have c9 : w89.cell? ⟨g, 2, none⟩ = some (d 41) := cell_of_blk HS.out.blk 2
            have f9 := free_of_blk HS.out.blk 2
            have hwr := wrote_setCell HS.out.blk 2 (.slice a2 v.secs.length k2)
            refine wpAnyZ_oneL (i := 17) (by kernel_rfl) rfl (fun K hK => ?_)
            go_simp
            obtain ⟨w90, hw⟩ : ∃ W, World.setCell w89 ⟨g, 2, none⟩ (.slice a2 v.secs.length k2) = W := ⟨_, rfl⟩
            rw [hw] at hwr
            rw [hw]
            replace HS := Lib.hid (HS.out.st 2 (.slice a2 v.secs.length k2) hwr)
            clear hw hwr c9 f9
            refine hK.out _ _ (fun _ => HCV.out _ HS.out.bel) (fun hHeld => ?_)
            replace hHeld := hHeld (by decide)
            clear hK K
            try simp only [Act.put]
            refine wpAnyZ_done (by kernel_rfl) ?_ _
            clear hHeld
            as_aux_lemma =>
            go_wp2_with fail
            go_meet
            exact ⟨rfl, _, _, _, HS.out⟩
          · go_simp
            obtain ⟨w91, hw⟩ : ∃ W, World.alloc w84 (.cells #[] tSec) = W := ⟨_, rfl⟩
            rw [hw]
            replace HS := Lib.hid (HS.out.b2 hw)
            generalize w84.heap.size = p2 at HS ⊢
            clear hw
            refine hK.out _ _ (fun _ => HCV.out _ HS.out.bel) (fun hHeld => ?_)
            replace hHeld := hHeld (by decide)
            clear hK K
            try simp only [Act.put, List.setIfInBounds_toArray, List.set_cons_zero, List.set_cons_succ]
            refine wpAnyZ_oneL (i := 7) (by kernel_rfl) rfl (fun K hK => ?_)
            rw [if_pos (by rfl)]
            refine HS.out.a1 zA1 HRV1.out (.tmp 16) (.tmp 18) rfl rfl rfl ?_
            intro u1 w92 hs
            replace HS := Lib.hid hs
            clear hs
            refine hK.out _ _ (fun _ => HCV.out _ HS.out.bel) (fun hHeld => ?_)
            replace hHeld := hHeld (by decide)
            clear hK K
            try simp only [Act.put, List.setIfInBounds_toArray, List.set_cons_zero, List.set_cons_succ]
            refine wpAnyZ_oneL (i := 11) (by kernel_rfl) rfl (fun K hK => ?_)
            rw [if_pos (by rfl)]
            refine HS.out.a2 zS1 HRV2.out (.tmp 20) (.tmp 22) rfl rfl rfl ?_
            intro u2 w93 hs
            replace HS := Lib.hid hs
            clear hs
            refine hK.out _ _ (fun _ => HCV.out _ HS.out.bel) (fun hHeld => ?_)
            replace hHeld := hHeld (by decide)
            clear hK K
            try simp only [Act.put, List.setIfInBounds_toArray, List.set_cons_zero, List.set_cons_succ]
            obtain ⟨a0, k0, rfl⟩ := HS.out.form0
            obtain ⟨a1, k1, rfl⟩ := HS.out.form1
            obtain ⟨a2, k2, rfl⟩ := HS.out.form2
            have c9 : w93.cell? ⟨g, 0, none⟩ = some (d 39) := cell_of_blk HS.out.blk 0
            have f9 := free_of_blk HS.out.blk 0
            have hwr := wrote_setCell HS.out.blk 0 (.slice a0 v.files.length k0)
            refine wpAnyZ_oneL (i := 13) (by kernel_rfl) rfl (fun K hK => ?_)
            go_simp
            obtain ⟨w94, hw⟩ : ∃ W, World.setCell w93 ⟨g, 0, none⟩ (.slice a0 v.files.length k0) = W := ⟨_, rfl⟩
            rw [hw] at hwr
            rw [hw]
            replace HS := Lib.hid (HS.out.st 0 (.slice a0 v.files.length k0) hwr)
            clear hw hwr c9 f9
            refine hK.out _ _ (fun _ => HCV.out _ HS.out.bel) (fun hHeld => ?_)
            replace hHeld := hHeld (by decide)
            clear hK K
            try simp only [Act.put]
            refine ztk 14 ?_
            try simp only [Act.put, List.setIfInBounds_toArray, List.set_cons_zero, List.set_cons_succ]
            have c9 : w94.cell? ⟨g, 1, none⟩ = some (d 40) := cell_of_blk HS.out.blk 1
            have f9 := free_of_blk HS.out.blk 1
            have hwr := wrote_setCell HS.out.blk 1 (.slice a1 v.arts.length k1)
            refine wpAnyZ_oneL (i := 15) (by kernel_rfl) rfl (fun K hK => ?_)
            go_simp
            obtain ⟨w95, hw⟩ : ∃ W, World.setCell w94 ⟨g, 1, none⟩ (.slice a1 v.arts.length k1) = W := ⟨_, rfl⟩
            rw [hw] at hwr
            rw [hw]
            replace HS := Lib.hid (HS.out.st 1 (.slice a1 v.arts.length k1) hwr)
            clear hw hwr c9 f9
            refine hK.out _ _ (fun _ => HCV.out _ HS.out.bel) (fun hHeld => ?_)
            replace hHeld := hHeld (by decide)
            clear hK K
            try simp only [Act.put]
            refine ztk 16 ?_
            try simp only [Act.put, List.setIfInBounds_toArray, List.set_cons_zero, List.set_cons_succ]
            have c9 : w95.cell? ⟨g, 2, none⟩ = some (d 41) := cell_of_blk HS.out.blk 2
            have f9 := free_of_blk HS.out.blk 2
            have hwr := wrote_setCell HS.out.blk 2 (.slice a2 v.secs.length k2)
            refine wpAnyZ_oneL (i := 17) (by kernel_rfl) rfl (fun K hK => ?_)
            go_simp
            obtain ⟨w96, hw⟩ : ∃ W, World.setCell w95 ⟨g, 2, none⟩ (.slice a2 v.secs.length k2) = W := ⟨_, rfl⟩
            rw [hw] at hwr
            rw [hw]
            replace HS := Lib.hid (HS.out.st 2 (.slice a2 v.secs.length k2) hwr)
            clear hw hwr c9 f9
            refine hK.out _ _ (fun _ => HCV.out _ HS.out.bel) (fun hHeld => ?_)
            replace hHeld := hHeld (by decide)
            clear hK K
            try simp only [Act.put]
            refine wpAnyZ_done (by kernel_rfl) ?_ _
            clear hHeld
            as_aux_lemma =>
            go_wp2_with fail
            go_meet
            exact ⟨rfl, _, _, _, HS.out⟩
        · go_simp
          obtain ⟨w97, hw⟩ : ∃ W, World.alloc w83 (.cells #[] tSec) = W := ⟨_, rfl⟩
          rw [hw]
          replace HS := Lib.hid (HS.out.b2 hw)
          generalize w83.heap.size = p2 at HS ⊢
          clear hw
          refine hK.out _ _ (fun _ => HCV.out _ HS.out.bel) (fun hHeld => ?_)
          replace hHeld := hHeld (by decide)
          clear hK K
          try simp only [Act.put, List.setIfInBounds_toArray, List.set_cons_zero, List.set_cons_succ]
          refine wpAnyZ_oneL (i := 3) (by kernel_rfl) rfl (fun K hK => ?_)
          rw [if_pos (by rfl)]
          refine HS.out.a0 zF1 HRV0.out (.tmp 12) (.tmp 14) rfl rfl rfl ?_
          intro u0 w98 hs
          replace HS := Lib.hid hs
          clear hs
          refine hK.out _ _ (fun _ => HCV.out _ HS.out.bel) (fun hHeld => ?_)
          replace hHeld := hHeld (by decide)
          clear hK K
          try simp only [Act.put, List.setIfInBounds_toArray, List.set_cons_zero, List.set_cons_succ]
          refine ztk 12 ?_
          try simp only [Act.put, List.setIfInBounds_toArray, List.set_cons_zero, List.set_cons_succ]
          refine wpAnyZ_oneL (i := 7) (by kernel_rfl) rfl (fun K hK => ?_)
          rw [if_pos (by rfl)]
          refine HS.out.a1 zA1 HRV1.out (.tmp 16) (.tmp 18) rfl rfl rfl ?_
          intro u1 w99 hs
          replace HS := Lib.hid hs
          clear hs
          refine hK.out _ _ (fun _ => HCV.out _ HS.out.bel) (fun hHeld => ?_)
          replace hHeld := hHeld (by decide)
          clear hK K
          try simp only [Act.put, List.setIfInBounds_toArray, List.set_cons_zero, List.set_cons_succ]
          refine wpAnyZ_oneL (i := 11) (by kernel_rfl) rfl (fun K hK => ?_)
          rw [if_pos (by rfl)]
          refine HS.out.a2 zS1 HRV2.out (.tmp 20) (.tmp 22) rfl rfl rfl ?_
          intro u2 w100 hs
          replace HS := Lib.hid hs
          clear hs
          refine hK.out _ _ (fun _ => HCV.out _ HS.out.bel) (fun hHeld => ?_)
          replace hHeld := hHeld (by decide)
          clear hK K
          try simp only [Act.put, List.setIfInBounds_toArray, List.set_cons_zero, List.set_cons_succ]
          obtain ⟨a0, k0, rfl⟩ := HS.out.form0
          obtain ⟨a1, k1, rfl⟩ := HS.out.form1
          obtain ⟨a2, k2, rfl⟩ := HS.out.form2
          have c9 : w100.cell? ⟨g, 0, none⟩ = some (d 39) := cell_of_blk HS.out.blk 0
          have f9 := free_of_blk HS.out.blk 0
          have hwr := wrote_setCell HS.out.blk 0 (.slice a0 v.files.length k0)
          refine wpAnyZ_oneL (i := 13) (by kernel_rfl) rfl (fun K hK => ?_)
          go_simp
          obtain ⟨w101, hw⟩ : ∃ W, World.setCell w100 ⟨g, 0, none⟩ (.slice a0 v.files.length k0) = W := ⟨_, rfl⟩
          rw [hw] at hwr
          rw [hw]
          replace HS := Lib.hid (HS.out.st 0 (.slice a0 v.files.length k0) hwr)
          clear hw hwr c9 f9
          refine hK.out _ _ (fun _ => HCV.out _ HS.out.bel) (fun hHeld => ?_)
          replace hHeld := hHeld (by decide)
          clear hK K
          try simp only [Act.put]
          refine ztk 14 ?_
          try simp only [Act.put, List.setIfInBounds_toArray, List.set_cons_zero, List.set_cons_succ]
          have c9 : w101.cell? ⟨g, 1, none⟩ = some (d 40) := cell_of_blk HS.out.blk 1
          have f9 := free_of_blk HS.out.blk 1
          have hwr := wrote_setCell HS.out.blk 1 (.slice a1 v.arts.length k1)
          refine wpAnyZ_oneL (i := 15) (by kernel_rfl) rfl (fun K hK => ?_)
          go_simp
          obtain ⟨w102, hw⟩ : ∃ W, World.setCell w101 ⟨g, 1, none⟩ (.slice a1 v.arts.length k1) = W := ⟨_, rfl⟩
          rw [hw] at hwr
          rw [hw]
          replace HS := Lib.hid (HS.out.st 1 (.slice a1 v.arts.length k1) hwr)
          clear hw hwr c9 f9
          refine hK.out _ _ (fun _ => HCV.out _ HS.out.bel) (fun hHeld => ?_)
          replace hHeld := hHeld (by decide)
          clear hK K
          try simp only [Act.put]
          refine ztk 16 ?_
          try simp only [Act.put, List.setIfInBounds_toArray, List.set_cons_zero, List.set_cons_succ]
          have c9 : w102.cell? ⟨g, 2, none⟩ = some (d 41) := cell_of_blk HS.out.blk 2
          have f9 := free_of_blk HS.out.blk 2
          have hwr := wrote_setCell HS.out.blk 2 (.slice a2 v.secs.length k2)
          refine wpAnyZ_oneL (i := 17) (by kernel_rfl) rfl (fun K hK => ?_)
          go_simp
          obtain ⟨w103, hw⟩ : ∃ W, World.setCell w102 ⟨g, 2, none⟩ (.slice a2 v.secs.length k2) = W := ⟨_, rfl⟩
          rw [hw] at hwr
          rw [hw]
          replace HS := Lib.hid (HS.out.st 2 (.slice a2 v.secs.length k2) hwr)
          clear hw hwr c9 f9
          refine hK.out _ _ (fun _ => HCV.out _ HS.out.bel) (fun hHeld => ?_)
          replace hHeld := hHeld (by decide)
          clear hK K
          try simp only [Act.put]
          refine wpAnyZ_done (by kernel_rfl) ?_ _
          clear hHeld
          as_aux_lemma =>
          go_wp2_with fail
          go_meet
          exact ⟨rfl, _, _, _, HS.out⟩
      · go_simp
        obtain ⟨w104, hw⟩ : ∃ W, World.alloc w61 (.cells #[] tSec) = W := ⟨_, rfl⟩
        rw [hw]
        replace HS := Lib.hid (HS.out.b2 hw)
        generalize w61.heap.size = p2 at HS ⊢
        clear hw
        refine hK.out _ _ (fun _ => HCV.out _ HS.out.bel) (fun hHeld => ?_)
        replace hHeld := hHeld (by decide)
        clear hK K
        try simp only [Act.put, List.setIfInBounds_toArray, List.set_cons_zero, List.set_cons_succ]
        refine wpAnyZ_two (i := 3) (j := 4) (by kernel_rfl) rfl rfl (fun K hK => ?_) (fun K hK => ?_)
        · rw [if_pos (by rfl)]
          refine HS.out.a0 zF1 HRV0.out (.tmp 12) (.tmp 14) rfl rfl rfl ?_
          intro u0 w105 hs
          replace HS := Lib.hid hs
          clear hs
          refine hK.out _ _ (fun _ => HCV.out _ HS.out.bel) (fun hHeld => ?_)
          replace hHeld := hHeld (by decide)
          clear hK K
          try simp only [Act.put, List.setIfInBounds_toArray, List.set_cons_zero, List.set_cons_succ]
          refine ztk 12 ?_
          try simp only [Act.put, List.setIfInBounds_toArray, List.set_cons_zero, List.set_cons_succ]
          refine wpAnyZ_oneL (i := 4) (by kernel_rfl) rfl (fun K hK => ?_)
          go_simp
          obtain ⟨w106, hw⟩ : ∃ W, World.alloc w105 (.cells #[] tOut) = W := ⟨_, rfl⟩
          rw [hw]
          replace HS := Lib.hid (HS.out.b1 hw)
          generalize w105.heap.size = p1 at HS ⊢
          clear hw
          refine hK.out _ _ (fun _ => HCV.out _ HS.out.bel) (fun hHeld => ?_)
          replace hHeld := hHeld (by decide)
          clear hK K
          try simp only [Act.put, List.setIfInBounds_toArray, List.set_cons_zero, List.set_cons_succ]
          refine wpAnyZ_oneL (i := 7) (by kernel_rfl) rfl (fun K hK => ?_)
          rw [if_pos (by rfl)]
          refine HS.out.a1 zA1 HRV1.out (.tmp 16) (.tmp 18) rfl rfl rfl ?_
          intro u1 w107 hs
          replace HS := Lib.hid hs
          clear hs
          refine hK.out _ _ (fun _ => HCV.out _ HS.out.bel) (fun hHeld => ?_)
          replace hHeld := hHeld (by decide)
          clear hK K
          try simp only [Act.put, List.setIfInBounds_toArray, List.set_cons_zero, List.set_cons_succ]
          refine wpAnyZ_oneL (i := 11) (by kernel_rfl) rfl (fun K hK => ?_)
          rw [if_pos (by rfl)]
          refine HS.out.a2 zS1 HRV2.out (.tmp 20) (.tmp 22) rfl rfl rfl ?_
          intro u2 w108 hs
          replace HS := Lib.hid hs
          clear hs
          refine hK.out _ _ (fun _ => HCV.out _ HS.out.bel) (fun hHeld => ?_)
          replace hHeld := hHeld (by decide)
          clear hK K
          try simp only [Act.put, List.setIfInBounds_toArray, List.set_cons_zero, List.set_cons_succ]
          obtain ⟨a0, k0, rfl⟩ := HS.out.form0
          obtain ⟨a1, k1, rfl⟩ := HS.out.form1
          obtain ⟨a2, k2, rfl⟩ := HS.out.form2
          have c9 : w108.cell? ⟨g, 0, none⟩ = some (d 39) := cell_of_blk HS.out.blk 0
          have f9 := free_of_blk HS.out.blk 0
          have hwr := wrote_setCell HS.out.blk 0 (.slice a0 v.files.length k0)
          refine wpAnyZ_oneL (i := 13) (by kernel_rfl) rfl (fun K hK => ?_)
          go_simp
          obtain ⟨w109, hw⟩ : ∃ W, World.setCell w108 ⟨g, 0, none⟩ (.slice a0 v.files.length k0) = W := ⟨_, rfl⟩
          rw [hw] at hwr
          rw [hw]
          replace HS := Lib.hid (HS.out.st 0 (.slice a0 v.files.length k0) hwr)
          clear hw hwr c9 f9
          refine hK.out _ _ (fun _ => HCV.out _ HS.out.bel) (fun hHeld => ?_)
          replace hHeld := hHeld (by decide)
          clear hK K
          try simp only [Act.put]
          refine ztk 14 ?_
          try simp only [Act.put, List.setIfInBounds_toArray, List.set_cons_zero, List.set_cons_succ]
          have c9 : w109.cell? ⟨g, 1, none⟩ = some (d 40) := cell_of_blk HS.out.blk 1
          have f9 := free_of_blk HS.out.blk 1
          have hwr := wrote_setCell HS.out.blk 1 (.slice a1 v.arts.length k1)
          refine wpAnyZ_oneL (i := 15) (by kernel_rfl) rfl (fun K hK => ?_)
          go_simp
          obtain ⟨w110, hw⟩ : ∃ W, World.setCell w109 ⟨g, 1, none⟩ (.slice a1 v.arts.length k1) = W := ⟨_, rfl⟩
          rw [hw] at hwr
          rw [hw]
          replace HS := Lib.hid (HS.out.st 1 (.slice a1 v.arts.length k1) hwr)
          clear hw hwr c9 f9
          refine hK.out _ _ (fun _ => HCV.out _ HS.out.bel) (fun hHeld => ?_)
          replace hHeld := hHeld (by decide)
          clear hK K
          try simp only [Act.put]
          refine ztk 16 ?_
          try simp only [Act.put, List.setIfInBounds_toArray, List.set_cons_zero, List.set_cons_succ]
          have c9 : w110.cell? ⟨g, 2, none⟩ = some (d 41) := cell_of_blk HS.out.blk 2
          have f9 := free_of_blk HS.out.blk 2
          have hwr := wrote_setCell HS.out.blk 2 (.slice a2 v.secs.length k2)
          refine wpAnyZ_oneL (i := 17) (by kernel_rfl) rfl (fun K hK => ?_)
          go_simp
          obtain ⟨w111, hw⟩ : ∃ W, World.setCell w110 ⟨g, 2, none⟩ (.slice a2 v.secs.length k2) = W := ⟨_, rfl⟩
          rw [hw] at hwr
          rw [hw]
          replace HS := Lib.hid (HS.out.st 2 (.slice a2 v.secs.length k2) hwr)
          clear hw hwr c9 f9
          refine hK.out _ _ (fun _ => HCV.out _ HS.out.bel) (fun hHeld => ?_)
          replace hHeld := hHeld (by decide)
          clear hK K
          try simp only [Act.put]
          refine wpAnyZ_done (by kernel_rfl) ?_ _
          clear hHeld
          as_aux_lemma =>
          go_wp2_with fail
          go_meet
          exact ⟨rfl, _, _, _, HS.out⟩
        · go_simp
          obtain ⟨w112, hw⟩ : ∃ W, World.alloc w104 (.cells #[] tOut) = W := ⟨_, rfl⟩
          rw [hw]
          replace HS := Lib.hid (HS.out.b1 hw)
          generalize w104.heap.size = p1 at HS ⊢
          clear hw
          refine hK.out _ _ (fun _ => HCV.out _ HS.out.bel) (fun hHeld => ?_)
          replace hHeld := hHeld (by decide)
          clear hK K
          try simp only [Act.put, List.setIfInBounds_toArray, List.set_cons_zero, List.set_cons_succ]
          refine wpAnyZ_oneL (i := 3) (by kernel_rfl) rfl (fun K hK => ?_)
          rw [if_pos (by rfl)]
          refine HS.out.a0 zF1 HRV0.out (.tmp 12) (.tmp 14) rfl rfl rfl ?_
          intro u0 w113 hs
          replace HS := Lib.hid hs
          clear hs
          refine hK.out _ _ (fun _ => HCV.out _ HS.out.bel) (fun hHeld => ?_)
          replace hHeld := hHeld (by decide)
          clear hK K
          try simp only [Act.put, List.setIfInBounds_toArray, List.set_cons_zero, List.set_cons_succ]
          refine ztk 12 ?_
          try simp only [Act.put, List.setIfInBounds_toArray, List.set_cons_zero, List.set_cons_succ]
          refine wpAnyZ_oneL (i := 7) (by kernel_rfl) rfl (fun K hK => ?_)
          rw [if_pos (by rfl)]
          refine HS.out.a1 zA1 HRV1.out (.tmp 16) (.tmp 18) rfl rfl rfl ?_
          intro u1 w114 hs
          replace HS := Lib.hid hs
          clear hs
          refine hK.out _ _ (fun _ => HCV.out _ HS.out.bel) (fun hHeld => ?_)
          replace hHeld := hHeld (by decide)
          clear hK K
          try simp only [Act.put, List.setIfInBounds_toArray, List.set_cons_zero, List.set_cons_succ]
          refine wpAnyZ_oneL (i := 11) (by kernel_rfl) rfl (fun K hK => ?_)
          rw [if_pos (by rfl)]
          refine HS.out.a2 zS1 HRV2.out (.tmp 20) (.tmp 22) rfl rfl rfl ?_
          intro u2 w115 hs
          replace HS := Lib.hid hs
          clear hs
          refine hK.out _ _ (fun _ => HCV.out _ HS.out.bel) (fun hHeld => ?_)
          replace hHeld := hHeld (by decide)
          clear hK K
          try simp only [Act.put, List.setIfInBounds_toArray, List.set_cons_zero, List.set_cons_succ]
          obtain ⟨a0, k0, rfl⟩ := HS.out.form0
          obtain ⟨a1, k1, rfl⟩ := HS.out.form1
          obtain ⟨a2, k2, rfl⟩ := HS.out.form2
          have c9 : w115.cell? ⟨g, 0, none⟩ = some (d 39) := cell_of_blk HS.out.blk 0
          have f9 := free_of_blk HS.out.blk 0
          have hwr := wrote_setCell HS.out.blk 0 (.slice a0 v.files.length k0)
          refine wpAnyZ_oneL (i := 13) (by kernel_rfl) rfl (fun K hK => ?_)
          go_simp
          obtain ⟨w116, hw⟩ : ∃ W, World.setCell w115 ⟨g, 0, none⟩ (.slice a0 v.files.length k0) = W := ⟨_, rfl⟩
          rw [hw] at hwr
          rw [hw]
          replace HS := Lib.hid (HS.out.st 0 (.slice a0 v.files.length k0) hwr)
          clear hw hwr c9 f9
          refine hK.out _ _ (fun _ => HCV.out _ HS.out.bel) (fun hHeld => ?_)
          replace hHeld := hHeld (by decide)
          clear hK K
          try simp only [Act.put]
          refine ztk 14 ?_
          try simp only [Act.put, List.setIfInBounds_toArray, List.set_cons_zero, List.set_cons_succ]
          have c9 : w116.cell? ⟨g, 1, none⟩ = some (d 40) := cell_of_blk HS.out.blk 1
          have f9 := free_of_blk HS.out.blk 1
          have hwr := wrote_setCell HS.out.blk 1 (.slice a1 v.arts.length k1)
          refine wpAnyZ_oneL (i := 15) (by kernel_rfl) rfl (fun K hK => ?_)
          go_simp
          obtain ⟨w117, hw⟩ : ∃ W, World.setCell w116 ⟨g, 1, none⟩ (.slice a1 v.arts.length k1) = W := ⟨_, rfl⟩
          rw [hw] at hwr
          rw [hw]
          replace HS := Lib.hid (HS.out.st 1 (.slice a1 v.arts.length k1) hwr)
          clear hw hwr c9 f9
          refine hK.out _ _ (fun _ => HCV.out _ HS.out.bel) (fun hHeld => ?_)
          replace hHeld := hHeld (by decide)
          clear hK K
          try simp only [Act.put]
          refine ztk 16 ?_
          try simp only [Act.put, List.setIfInBounds_toArray, List.set_cons_zero, List.set_cons_succ]
          have c9 : w117.cell? ⟨g, 2, none⟩ = some (d 41) := cell_of_blk HS.out.blk 2
          have f9 := free_of_blk HS.out.blk 2
          have hwr := wrote_setCell HS.out.blk 2 (.slice a2 v.secs.length k2)
          refine wpAnyZ_oneL (i := 17) (by kernel_rfl) rfl (fun K hK => ?_)
          go_simp
          obtain ⟨w118, hw⟩ : ∃ W, World.setCell w117 ⟨g, 2, none⟩ (.slice a2 v.secs.length k2) = W := ⟨_, rfl⟩
          rw [hw] at hwr
          rw [hw]
          replace HS := Lib.hid (HS.out.st 2 (.slice a2 v.secs.length k2) hwr)
          clear hw hwr c9 f9
          refine hK.out _ _ (fun _ => HCV.out _ HS.out.bel) (fun hHeld => ?_)
          replace hHeld := hHeld (by decide)
          clear hK K
          try simp only [Act.put]
          refine wpAnyZ_done (by kernel_rfl) ?_ _
          clear hHeld
          as_aux_lemma =>
          go_wp2_with fail
          go_meet
          exact ⟨rfl, _, _, _, HS.out⟩
    · go_simp
      obtain ⟨w119, hw⟩ : ∃ W, World.alloc w60 (.cells #[] tOut) = W := ⟨_, rfl⟩
      rw [hw]
      replace HS := Lib.hid (HS.out.b1 hw)
      generalize w60.heap.size = p1 at HS ⊢
      clear hw
      refine hK.out _ _ (fun _ => HCV.out _ HS.out.bel) (fun hHeld => ?_)
      replace hHeld := hHeld (by decide)
      clear hK K
      try simp only [Act.put, List.setIfInBounds_toArray, List.set_cons_zero, List.set_cons_succ]
      refine wpAnyZ_two (i := 0) (j := 8) (by kernel_rfl) rfl rfl (fun K hK => ?_) (fun K hK => ?_)
      · go_simp
        obtain ⟨w120, hw⟩ : ∃ W, World.alloc w119 (.cells #[] tFile) = W := ⟨_, rfl⟩
        rw [hw]
        replace HS := Lib.hid (HS.out.b0 hw)
        generalize w119.heap.size = p0 at HS ⊢
        clear hw
        refine hK.out _ _ (fun _ => HCV.out _ HS.out.bel) (fun hHeld => ?_)
        replace hHeld := hHeld (by decide)
        clear hK K
        try simp only [Act.put, List.setIfInBounds_toArray, List.set_cons_zero, List.set_cons_succ]
        refine wpAnyZ_two (i := 3) (j := 8) (by kernel_rfl) rfl rfl (fun K hK => ?_) (fun K hK => ?_)
        · rw [if_pos (by rfl)]
          refine HS.out.a0 zF1 HRV0.out (.tmp 12) (.tmp 14) rfl rfl rfl ?_
          intro u0 w121 hs
          replace HS := Lib.hid hs
          clear hs
          refine hK.out _ _ (fun _ => HCV.out _ HS.out.bel) (fun hHeld => ?_)
          replace hHeld := hHeld (by decide)
          clear hK K
          try simp only [Act.put, List.setIfInBounds_toArray, List.set_cons_zero, List.set_cons_succ]
          refine ztk 12 ?_
          try simp only [Act.put, List.setIfInBounds_toArray, List.set_cons_zero, List.set_cons_succ]
          refine wpAnyZ_two (i := 7) (j := 8) (by kernel_rfl) rfl rfl (fun K hK => ?_) (fun K hK => ?_)
          · rw [if_pos (by rfl)]
            refine HS.out.a1 zA1 HRV1.out (.tmp 16) (.tmp 18) rfl rfl rfl ?_
            intro u1 w122 hs
            replace HS := Lib.hid hs
            clear hs
            refine hK.out _ _ (fun _ => HCV.out _ HS.out.bel) (fun hHeld => ?_)
            replace hHeld := hHeld (by decide)
            clear hK K
            try simp only [Act.put, List.setIfInBounds_toArray, List.set_cons_zero, List.set_cons_succ]
            refine wpAnyZ_oneL (i := 8) (by kernel_rfl) rfl (fun K hK => ?_)
            go_simp
            obtain ⟨w123, hw⟩ : ∃ W, World.alloc w122 (.cells #[] tSec) = W := ⟨_, rfl⟩
            rw [hw]
            replace HS := Lib.hid (HS.out.b2 hw)
            generalize w122.heap.size = p2 at HS ⊢
            clear hw
            refine hK.out _ _ (fun _ => HCV.out _ HS.out.bel) (fun hHeld => ?_)
            replace hHeld := hHeld (by decide)
            clear hK K
            try simp only [Act.put, List.setIfInBounds_toArray, List.set_cons_zero, List.set_cons_succ]
            refine wpAnyZ_oneL (i := 11) (by kernel_rfl) rfl (fun K hK => ?_)
            rw [if_pos (by rfl)]
            refine HS.out.a2 zS1 HRV2.out (.tmp 20) (.tmp 22) rfl rfl rfl ?_
            intro u2 w124 hs
            replace HS := Lib.hid hs
            clear hs
            refine hK.out _ _ (fun _ => HCV.out _ HS.out.bel) (fun hHeld => ?_)
            replace hHeld := hHeld (by decide)
            clear hK K
            try simp only [Act.put, List.setIfInBounds_toArray, List.set_cons_zero, List.set_cons_succ]
            obtain ⟨a0, k0, rfl⟩ := HS.out.form0
            obtain ⟨a1, k1, rfl⟩ := HS.out.form1
            obtain ⟨a2, k2, rfl⟩ := HS.out.form2
            have c9 : w124.cell? ⟨g, 0, none⟩ = some (d 39) := cell_of_blk HS.out.blk 0
            have f9 := free_of_blk HS.out.blk 0
            have hwr := wrote_setCell HS.out.blk 0 (.slice a0 v.files.length k0)
            refine wpAnyZ_oneL (i := 13) (by kernel_rfl) rfl (fun K hK => ?_)
            go_simp
            obtain ⟨w125, hw⟩ : ∃ W, World.setCell w124 ⟨g, 0, none⟩ (.slice a0 v.files.length k0) = W := ⟨_, rfl⟩
            rw [hw] at hwr
            rw [hw]
            replace HS := Lib.hid (HS.out.st 0 (.slice a0 v.files.length k0) hwr)
            clear hw hwr c9 f9
            refine hK.out _ _ (fun _ => HCV.out _ HS.out.bel) (fun hHeld => ?_)
            replace hHeld := hHeld (by decide)
            clear hK K
            try simp only [Act.put]
            refine ztk 14 ?_
            try simp only [Act.put, List.setIfInBounds_toArray, List.set_cons_zero, List.set_cons_succ]
            have c9 : w125.cell? ⟨g, 1, none⟩ = some (d 40) := cell_of_blk HS.out.blk 1
            have f9 := free_of_blk HS.out.blk 1
            have hwr := wrote_setCell HS.out.blk 1 (.slice a1 v.arts.length k1)
            refine wpAnyZ_oneL (i := 15) (by kernel_rfl) rfl (fun K hK => ?_)
            go_simp
            obtain ⟨w126, hw⟩ : ∃ W, World.setCell w125 ⟨g, 1, none⟩ (.slice a1 v.arts.length k1) = W := ⟨_, rfl⟩
            rw [hw] at hwr
            rw [hw]
            replace HS := Lib.hid (HS.out.st 1 (.slice a1 v.arts.length k1) hwr)
            clear hw hwr c9 f9
            refine hK.out _ _ (fun _ => HCV.out _ HS.out.bel) (fun hHeld => ?_)
            replace hHeld := hHeld (by decide)
            clear hK K
            try simp only [Act.put]
            refine ztk 16 ?_
            try simp only [Act.put, List.setIfInBounds_toArray, List.set_cons_zero, List.set_cons_succ]
            have c9 : w126.cell? ⟨g, 2, none⟩ = some (d 41) := cell_of_blk HS.out.blk 2
            have f9 := free_of_blk HS.out.blk 2
            have hwr := wrote_setCell HS.out.blk 2 (.slice a2 v.secs.length k2)
            refine wpAnyZ_oneL (i := 17) (by kernel_rfl) rfl (fun K hK => ?_)
            go_simp
            obtain ⟨w127, hw⟩ : ∃ W, World.setCell w126 ⟨g, 2, none⟩ (.slice a2 v.secs.length k2) = W := ⟨_, rfl⟩
            rw [hw] at hwr
            rw [hw]
            replace HS := Lib.hid (HS.out.st 2 (.slice a2 v.secs.length k2) hwr)
            clear hw hwr c9 f9
            refine hK.out _ _ (fun _ => HCV.out _ HS.out.bel) (fun hHeld => ?_)
            replace hHeld := hHeld (by decide)
            clear hK K
            try simp only [Act.put]
            refine wpAnyZ_done (by kernel_rfl) ?_ _
            clear hHeld
            as_aux_lemma =>
            go_wp2_with fail
            go_meet
            exact ⟨rfl, _, _, _, HS.out⟩
          · go_simp
            obtain ⟨w128, hw⟩ : ∃ W, World.alloc w121 (.cells #[] tSec) = W := ⟨_, rfl⟩
            rw [hw]
            replace HS := Lib.hid (HS.out.b2 hw)
            generalize w121.heap.size = p2 at HS ⊢
            clear hw
            refine hK.out _ _ (fun _ => HCV.out _ HS.out.bel) (fun hHeld => ?_)
            replace hHeld := hHeld (by decide)
            clear hK K
            try simp only [Act.put, List.setIfInBounds_toArray, List.set_cons_zero, List.set_cons_succ]
            refine wpAnyZ_oneL (i := 7) (by kernel_rfl) rfl (fun K hK => ?_)
            rw [if_pos (by rfl)]
            refine HS.out.a1 zA1 HRV1.out (.tmp 16) (.tmp 18) rfl rfl rfl ?_
            intro u1 w129 hs
            replace HS := Lib.hid hs
            clear hs
            refine hK.out _ _ (fun _ => HCV.out _ HS.out.bel) (fun hHeld => ?_)
            replace hHeld := hHeld (by decide)
            clear hK K
            try simp only [Act.put, List.setIfInBounds_toArray, List.set_cons_zero, List.set_cons_succ]
            refine wpAnyZ_oneL (i := 11) (by kernel_rfl) rfl (fun K hK => ?_)
            rw [if_pos (by rfl)]
            refine HS.out.a2 zS1 HRV2.out (.tmp 20) (.tmp 22) rfl rfl rfl ?_
            intro u2 w130 hs
            replace HS := Lib.hid hs
            clear hs
            refine hK.out _ _ (fun _ => HCV.out _ HS.out.bel) (fun hHeld => ?_)
            replace hHeld := hHeld (by decide)
            clear hK K
            try simp only [Act.put, List.setIfInBounds_toArray, List.set_cons_zero, List.set_cons_succ]
            obtain ⟨a0, k0, rfl⟩ := HS.out.form0
            obtain ⟨a1, k1, rfl⟩ := HS.out.form1
            obtain ⟨a2, k2, rfl⟩ := HS.out.form2
            have c9 : w130.cell? ⟨g, 0, none⟩ = some (d 39) := cell_of_blk HS.out.blk 0
            have f9 := free_of_blk HS.out.blk 0
            have hwr := wrote_setCell HS.out.blk 0 (.slice a0 v.files.length k0)
            refine wpAnyZ_oneL (i := 13) (by kernel_rfl) rfl (fun K hK => ?_)
            go_simp
            obtain ⟨w131, hw⟩ : ∃ W, World.setCell w130 ⟨g, 0, none⟩ (.slice a0 v.files.length k0) = W := ⟨_, rfl⟩
            rw [hw] at hwr
            rw [hw]
            replace HS := Lib.hid (HS.out.st 0 (.slice a0 v.files.length k0) hwr)
            clear hw hwr c9 f9
            refine hK.out _ _ (fun _ => HCV.out _ HS.out.bel) (fun hHeld => ?_)
            replace hHeld := hHeld (by decide)
            clear hK K
            try simp only [Act.put]
            refine ztk 14 ?_
            try simp only [Act.put, List.setIfInBounds_toArray, List.set_cons_zero, List.set_cons_succ]
            have c9 : w131.cell? ⟨g, 1, none⟩ = some (d 40) := cell_of_blk HS.out.blk 1
            have f9 := free_of_blk HS.out.blk 1
            have hwr := wrote_setCell HS.out.blk 1 (.slice a1 v.arts.length k1)
            refine wpAnyZ_oneL (i := 15) (by kernel_rfl) rfl (fun K hK => ?_)
            go_simp
            obtain ⟨w132, hw⟩ : ∃ W, World.setCell w131 ⟨g, 1, none⟩ (.slice a1 v.arts.length k1) = W := ⟨_, rfl⟩
            rw [hw] at hwr
            rw [hw]
            replace HS := Lib.hid (HS.out.st 1 (.slice a1 v.arts.length k1) hwr)
            clear hw hwr c9 f9
            refine hK.out _ _ (fun _ => HCV.out _ HS.out.bel) (fun hHeld => ?_)
            replace hHeld := hHeld (by decide)
            clear hK K
            try simp only [Act.put]
            refine ztk 16 ?_
            try simp only [Act.put, List.setIfInBounds_toArray, List.set_cons_zero, List.set_cons_succ]
            have c9 : w132.cell? ⟨g, 2, none⟩ = some (d 41) := cell_of_blk HS.out.blk 2
            have f9 := free_of_blk HS.out.blk 2
            have hwr := wrote_setCell HS.out.blk 2 (.slice a2 v.secs.length k2)
            refine wpAnyZ_oneL (i := 17) (by kernel_rfl) rfl (fun K hK => ?_)
            go_simp
            obtain ⟨w133, hw⟩ : ∃ W, World.setCell w132 ⟨g, 2, none⟩ (.slice a2 v.secs.length k2) = W := ⟨_, rfl⟩
            rw [hw] at hwr
            rw [hw]
            replace HS := Lib.hid (HS.out.st 2 (.slice a2 v.secs.length k2) hwr)
            clear hw hwr c9 f9
            refine hK.out _ _ (fun _ => HCV.out _ HS.out.bel) (fun hHeld => ?_)
            replace hHeld := hHeld (by decide)
            clear hK K
            try simp only [Act.put]
            refine wpAnyZ_done (by kernel_rfl) ?_ _
            clear hHeld
            as_aux_lemma =>
            go_wp2_with fail
            go_meet
            exact ⟨rfl, _, _, _, HS.out⟩
        · go_simp
          obtain ⟨w134, hw⟩ : ∃ W, World.alloc w120 (.cells #[] tSec) = W := ⟨_, rfl⟩
          rw [hw]
          replace HS := Lib.hid (HS.out.b2 hw)
          generalize w120.heap.size = p2 at HS ⊢
          clear hw
          refine hK.out _ _ (fun _ => HCV.out _ HS.out.bel) (fun hHeld => ?_)
          replace hHeld := hHeld (by decide)
          clear hK K
          try simp only [Act.put, List.setIfInBounds_toArray, List.set_cons_zero, List.set_cons_succ]
          refine wpAnyZ_oneL (i := 3) (by kernel_rfl) rfl (fun K hK => ?_)
          rw [if_pos (by rfl)]
          refine HS.out.a0 zF1 HRV0.out (.tmp 12) (.tmp 14) rfl rfl rfl ?_
          intro u0 w135 hs
          replace HS := Lib.hid hs
          clear hs
          refine hK.out _ _ (fun _ => HCV.out _ HS.out.bel) (fun hHeld => ?_)
          replace hHeld := hHeld (by decide)
          clear hK K
          try simp only [Act.put, List.setIfInBounds_toArray, List.set_cons_zero, List.set_cons_succ]
          refine ztk 12 ?_
          try simp only [Act.put, List.setIfInBounds_toArray, List.set_cons_zero, List.set_cons_succ]
          refine wpAnyZ_oneL (i := 7) (by kernel_rfl) rfl (fun K hK => ?_)
          rw [if_pos (by rfl)]
          refine HS.out.a1 zA1 HRV1.out (.tmp 16) (.tmp 18) rfl rfl rfl ?_
          intro u1 w136 hs
          replace HS := Lib.hid hs
          clear hs
          refine hK.out _ _ (fun _ => HCV.out _ HS.out.bel) (fun hHeld => ?_)
          replace hHeld := hHeld (by decide)
          clear hK K
          try simp only [Act.put, List.setIfInBounds_toArray, List.set_cons_zero, List.set_cons_succ]
          refine wpAnyZ_oneL (i := 11) (by kernel_rfl) rfl (fun K hK => ?_)
          rw [if_pos (by rfl)]
          refine HS.out.a2 zS1 HRV2.out (.tmp 20) (.tmp 22) rfl rfl rfl ?_
          intro u2 w137 hs
          replace HS := Lib.hid hs
          clear hs
          refine hK.out _ _ (fun _ => HCV.out _ HS.out.bel) (fun hHeld => ?_)
          replace hHeld := hHeld (by decide)
          clear hK K
          try simp only [Act.put, List.setIfInBounds_toArray, List.set_cons_zero, List.set_cons_succ]
          obtain ⟨a0, k0, rfl⟩ := HS.out.form0
          obtain ⟨a1, k1, rfl⟩ := HS.out.form1
          obtain ⟨a2, k2, rfl⟩ := HS.out.form2
          have c9 : w137.cell? ⟨g, 0, none⟩ = some (d 39) := cell_of_blk HS.out.blk 0
          have f9 := free_of_blk HS.out.blk 0
          have hwr := wrote_setCell HS.out.blk 0 (.slice a0 v.files.length k0)
          refine wpAnyZ_oneL (i := 13) (by kernel_rfl) rfl (fun K hK => ?_)
          go_simp
          obtain ⟨w138, hw⟩ : ∃ W, World.setCell w137 ⟨g, 0, none⟩ (.slice a0 v.files.length k0) = W := ⟨_, rfl⟩
          rw [hw] at hwr
          rw [hw]
          replace HS := Lib.hid (HS.out.st 0 (.slice a0 v.files.length k0) hwr)
          clear hw hwr c9 f9
          refine hK.out _ _ (fun _ => HCV.out _ HS.out.bel) (fun hHeld => ?_)
          replace hHeld := hHeld (by decide)
          clear hK K
          try simp only [Act.put]
          refine ztk 14 ?_
          try simp only [Act.put, List.setIfInBounds_toArray, List.set_cons_zero, List.set_cons_succ]
          have c9 : w138.cell? ⟨g, 1, none⟩ = some (d 40) := cell_of_blk HS.out.blk 1
          have f9 := free_of_blk HS.out.blk 1
          have hwr := wrote_setCell HS.out.blk 1 (.slice a1 v.arts.length k1)
          refine wpAnyZ_oneL (i := 15) (by kernel_rfl) rfl (fun K hK => ?_)
          go_simp
          obtain ⟨w139, hw⟩ : ∃ W, World.setCell w138 ⟨g, 1, none⟩ (.slice a1 v.arts.length k1) = W := ⟨_, rfl⟩
          rw [hw] at hwr
          rw [hw]
          replace HS := Lib.hid (HS.out.st 1 (.slice a1 v.arts.length k1) hwr)
          clear hw hwr c9 f9
          refine hK.out _ _ (fun _ => HCV.out _ HS.out.bel) (fun hHeld => ?_)
          replace hHeld := hHeld (by decide)
          clear hK K
          try simp only [Act.put]
          refine ztk 16 ?_
          try simp only [Act.put, List.setIfInBounds_toArray, List.set_cons_zero, List.set_cons_succ]
          have c9 : w139.cell? ⟨g, 2, none⟩ = some (d 41) := cell_of_blk HS.out.blk 2
          have f9 := free_of_blk HS.out.blk 2
          have hwr := wrote_setCell HS.out.blk 2 (.slice a2 v.secs.length k2)
          refine wpAnyZ_oneL (i := 17) (by kernel_rfl) rfl (fun K hK => ?_)
          go_simp
          obtain ⟨w140, hw⟩ : ∃ W, World.setCell w139 ⟨g, 2, none⟩ (.slice a2 v.secs.length k2) = W := ⟨_, rfl⟩
          rw [hw] at hwr
          rw [hw]
          replace HS := Lib.hid (HS.out.st 2 (.slice a2 v.secs.length k2) hwr)
          clear hw hwr c9 f9
          refine hK.out _ _ (fun _ => HCV.out _ HS.out.bel) (fun hHeld => ?_)
          replace hHeld := hHeld (by decide)
          clear hK K
          try simp only [Act.put]
          refine wpAnyZ_done (by kernel_rfl) ?_ _
          clear hHeld
          as_aux_lemma =>
          go_wp2_with fail
          go_meet
          exact ⟨rfl, _, _, _, HS.out⟩
      · go_simp
        obtain ⟨w141, hw⟩ : ∃ W, World.alloc w119 (.cells #[] tSec) = W := ⟨_, rfl⟩
        rw [hw]
        replace HS := Lib.hid (HS.out.b2 hw)
        generalize w119.heap.size = p2 at HS ⊢
        clear hw
        refine hK.out _ _ (fun _ => HCV.out _ HS.out.bel) (fun hHeld => ?_)
        replace hHeld := hHeld (by decide)
        clear hK K
        try simp only [Act.put, List.setIfInBounds_toArray, List.set_cons_zero, List.set_cons_succ]
        refine wpAnyZ_oneL (i := 0) (by kernel_rfl) rfl (fun K hK => ?_)
        go_simp
        obtain ⟨w142, hw⟩ : ∃ W, World.alloc w141 (.cells #[] tFile) = W := ⟨_, rfl⟩
        rw [hw]
        replace HS := Lib.hid (HS.out.b0 hw)
        generalize w141.heap.size = p0 at HS ⊢
        clear hw
        refine hK.out _ _ (fun _ => HCV.out _ HS.out.bel) (fun hHeld => ?_)
        replace hHeld := hHeld (by decide)
        clear hK K
        try simp only [Act.put, List.setIfInBounds_toArray, List.set_cons_zero, List.set_cons_succ]
        refine wpAnyZ_oneL (i := 3) (by kernel_rfl) rfl (fun K hK => ?_)
        rw [if_pos (by rfl)]
        refine HS.out.a0 zF1 HRV0.out (.tmp 12) (.tmp 14) rfl rfl rfl ?_
        intro u0 w143 hs
        replace HS := Lib.hid hs
        clear hs
        refine hK.out _ _ (fun _ => HCV.out _ HS.out.bel) (fun hHeld => ?_)
        replace hHeld := hHeld (by decide)
        clear hK K
        try simp only [Act.put, List.setIfInBounds_toArray, List.set_cons_zero, List.set_cons_succ]
        refine ztk 12 ?_
        try simp only [Act.put, List.setIfInBounds_toArray, List.set_cons_zero, List.set_cons_succ]
        refine wpAnyZ_oneL (i := 7) (by kernel_rfl) rfl (fun K hK => ?_)
        rw [if_pos (by rfl)]
        refine HS.out.a1 zA1 HRV1.out (.tmp 16) (.tmp 18) rfl rfl rfl ?_
        intro u1 w144 hs
        replace HS := Lib.hid hs
        clear hs
        refine hK.out _ _ (fun _ => HCV.out _ HS.out.bel) (fun hHeld => ?_)
        replace hHeld := hHeld (by decide)
        clear hK K
        try simp only [Act.put, List.setIfInBounds_toArray, List.set_cons_zero, List.set_cons_succ]
        refine wpAnyZ_oneL (i := 11) (by kernel_rfl) rfl (fun K hK => ?_)
        rw [if_pos (by rfl)]
        refine HS.out.a2 zS1 HRV2.out (.tmp 20) (.tmp 22) rfl rfl rfl ?_
        intro u2 w145 hs
        replace HS := Lib.hid hs
        clear hs
        refine hK.out _ _ (fun _ => HCV.out _ HS.out.bel) (fun hHeld => ?_)
        replace hHeld := hHeld (by decide)
        clear hK K
        try simp only [Act.put, List.setIfInBounds_toArray, List.set_cons_zero, List.set_cons_succ]
        obtain ⟨a0, k0, rfl⟩ := HS.out.form0
        obtain ⟨a1, k1, rfl⟩ := HS.out.form1
        obtain ⟨a2, k2, rfl⟩ := HS.out.form2
        have c9 : w145.cell? ⟨g, 0, none⟩ = some (d 39) := cell_of_blk HS.out.blk 0
        have f9 := free_of_blk HS.out.blk 0
        have hwr := wrote_setCell HS.out.blk 0 (.slice a0 v.files.length k0)
        refine wpAnyZ_oneL (i := 13) (by kernel_rfl) rfl (fun K hK => ?_)
        go_simp
        obtain ⟨w146, hw⟩ : ∃ W, World.setCell w145 ⟨g, 0, none⟩ (.slice a0 v.files.length k0) = W := ⟨_, rfl⟩
        rw [hw] at hwr
        rw [hw]
        replace HS := Lib.hid (HS.out.st 0 (.slice a0 v.files.length k0) hwr)
        clear hw hwr c9 f9
        refine hK.out _ _ (fun _ => HCV.out _ HS.out.bel) (fun hHeld => ?_)
        replace hHeld := hHeld (by decide)
        clear hK K
        try simp only [Act.put]
        refine ztk 14 ?_
        try simp only [Act.put, List.setIfInBounds_toArray, List.set_cons_zero, List.set_cons_succ]
        have c9 : w146.cell? ⟨g, 1, none⟩ = some (d 40) := cell_of_blk HS.out.blk 1
        have f9 := free_of_blk HS.out.blk 1
        have hwr := wrote_setCell HS.out.blk 1 (.slice a1 v.arts.length k1)
        refine wpAnyZ_oneL (i := 15) (by kernel_rfl) rfl (fun K hK => ?_)
        go_simp
        obtain ⟨w147, hw⟩ : ∃ W, World.setCell w146 ⟨g, 1, none⟩ (.slice a1 v.arts.length k1) = W := ⟨_, rfl⟩
        rw [hw] at hwr
        rw [hw]
        replace HS := Lib.hid (HS.out.st 1 (.slice a1 v.arts.length k1) hwr)
        clear hw hwr c9 f9
        refine hK.out _ _ (fun _ => HCV.out _ HS.out.bel) (fun hHeld => ?_)
        replace hHeld := hHeld (by decide)
        clear hK K
        try simp only [Act.put]
        refine ztk 16 ?_
        try simp only [Act.put, List.setIfInBounds_toArray, List.set_cons_zero, List.set_cons_succ]
        have c9 : w147.cell? ⟨g, 2, none⟩ = some (d 41) := cell_of_blk HS.out.blk 2
        have f9 := free_of_blk HS.out.blk 2
        have hwr := wrote_setCell HS.out.blk 2 (.slice a2 v.secs.length k2)
        refine wpAnyZ_oneL (i := 17) (by kernel_rfl) rfl (fun K hK => ?_)
        go_simp
        obtain ⟨w148, hw⟩ : ∃ W, World.setCell w147 ⟨g, 2, none⟩ (.slice a2 v.secs.length k2) = W := ⟨_, rfl⟩
        rw [hw] at hwr
        rw [hw]
        replace HS := Lib.hid (HS.out.st 2 (.slice a2 v.secs.length k2) hwr)
        clear hw hwr c9 f9
        refine hK.out _ _ (fun _ => HCV.out _ HS.out.bel) (fun hHeld => ?_)
        replace hHeld := hHeld (by decide)
        clear hK K
        try simp only [Act.put]
        refine wpAnyZ_done (by kernel_rfl) ?_ _
        clear hHeld
        as_aux_lemma =>
        go_wp2_with fail
        go_meet
        exact ⟨rfl, _, _, _, HS.out⟩
    · go_simp
      obtain ⟨w149, hw⟩ : ∃ W, World.alloc w60 (.cells #[] tSec) = W := ⟨_, rfl⟩
      rw [hw]
      replace HS := Lib.hid (HS.out.b2 hw)
      generalize w60.heap.size = p2 at HS ⊢
      clear hw
      refine hK.out _ _ (fun _ => HCV.out _ HS.out.bel) (fun hHeld => ?_)
      replace hHeld := hHeld (by decide)
      clear hK K
      try simp only [Act.put, List.setIfInBounds_toArray, List.set_cons_zero, List.set_cons_succ]
      refine wpAnyZ_two (i := 0) (j := 4) (by kernel_rfl) rfl rfl (fun K hK => ?_) (fun K hK => ?_)
      · go_simp
        obtain ⟨w150, hw⟩ : ∃ W, World.alloc w149 (.cells #[] tFile) = W := ⟨_, rfl⟩
        rw [hw]
        replace HS := Lib.hid (HS.out.b0 hw)
        generalize w149.heap.size = p0 at HS ⊢
        clear hw
        refine hK.out _ _ (fun _ => HCV.out _ HS.out.bel) (fun hHeld => ?_)
        replace hHeld := hHeld (by decide)
        clear hK K
        try simp only [Act.put, List.setIfInBounds_toArray, List.set_cons_zero, List.set_cons_succ]
        refine wpAnyZ_two (i := 3) (j := 4) (by kernel_rfl) rfl rfl (fun K hK => ?_) (fun K hK => ?_)
        · rw [if_pos (by rfl)]
          refine HS.out.a0 zF1 HRV0.out (.tmp 12) (.tmp 14) rfl rfl rfl ?_
          intro u0 w151 hs
          replace HS := Lib.hid hs
          clear hs
          refine hK.out _ _ (fun _ => HCV.out _ HS.out.bel) (fun hHeld => ?_)
          replace hHeld := hHeld (by decide)
          clear hK K
          try simp only [Act.put, List.setIfInBounds_toArray, List.set_cons_zero, List.set_cons_succ]
          refine ztk 12 ?_
          try simp only [Act.put, List.setIfInBounds_toArray, List.set_cons_zero, List.set_cons_succ]
          refine wpAnyZ_oneL (i := 4) (by kernel_rfl) rfl (fun K hK => ?_)
          go_simp
          obtain ⟨w152, hw⟩ : ∃ W, World.alloc w151 (.cells #[] tOut) = W := ⟨_, rfl⟩
          rw [hw]
          replace HS := Lib.hid (HS.out.b1 hw)
          generalize w151.heap.size = p1 at HS ⊢
          clear hw
          refine hK.out _ _ (fun _ => HCV.out _ HS.out.bel) (fun hHeld => ?_)
          replace hHeld := hHeld (by decide)
          clear hK K
          try simp only [Act.put, List.setIfInBounds_toArray, List.set_cons_zero, List.set_cons_succ]
          refine wpAnyZ_oneL (i := 7) (by kernel_rfl) rfl (fun K hK => ?_)
          rw [if_pos (by rfl)]
          refine HS.out.a1 zA1 HRV1.out (.tmp 16) (.tmp 18) rfl rfl rfl ?_
          intro u1 w153 hs
          replace HS := Lib.hid hs
          clear hs
          refine hK.out _ _ (fun _ => HCV.out _ HS.out.bel) (fun hHeld => ?_)
          replace hHeld := hHeld (by decide)
          clear hK K
          try simp only [Act.put, List.setIfInBounds_toArray, List.set_cons_zero, List.set_cons_succ]
          refine wpAnyZ_oneL (i := 11) (by kernel_rfl) rfl (fun K hK => ?_)
          rw [if_pos (by rfl)]
          refine HS.out.a2 zS1 HRV2.out (.tmp 20) (.tmp 22) rfl rfl rfl ?_
          intro u2 w154 hs
          replace HS := Lib.hid hs
          clear hs
          refine hK.out _ _ (fun _ => HCV.out _ HS.out.bel) (fun hHeld => ?_)
          replace hHeld := hHeld (by decide)
          clear hK K
          try simp only [Act.put, List.setIfInBounds_toArray, List.set_cons_zero, List.set_cons_succ]
          obtain ⟨a0, k0, rfl⟩ := HS.out.form0
          obtain ⟨a1, k1, rfl⟩ := HS.out.form1
          obtain ⟨a2, k2, rfl⟩ := HS.out.form2
          have c9 : w154.cell? ⟨g, 0, none⟩ = some (d 39) := cell_of_blk HS.out.blk 0
          have f9 := free_of_blk HS.out.blk 0
          have hwr := wrote_setCell HS.out.blk 0 (.slice a0 v.files.length k0)
          refine wpAnyZ_oneL (i := 13) (by kernel_rfl) rfl (fun K hK => ?_)
          go_simp
          obtain ⟨w155, hw⟩ : ∃ W, World.setCell w154 ⟨g, 0, none⟩ (.slice a0 v.files.length k0) = W := ⟨_, rfl⟩
          rw [hw] at hwr
          rw [hw]
          replace HS := Lib.hid (HS.out.st 0 (.slice a0 v.files.length k0) hwr)
          clear hw hwr c9 f9
          refine hK.out _ _ (fun _ => HCV.out _ HS.out.bel) (fun hHeld => ?_)
          replace hHeld := hHeld (by decide)
          clear hK K
          try simp only [Act.put]
          refine ztk 14 ?_
          try simp only [Act.put, List.setIfInBounds_toArray, List.set_cons_zero, List.set_cons_succ]
          have c9 : w155.cell? ⟨g, 1, none⟩ = some (d 40) := cell_of_blk HS.out.blk 1
          have f9 := free_of_blk HS.out.blk 1
          have hwr := wrote_setCell HS.out.blk 1 (.slice a1 v.arts.length k1)
          refine wpAnyZ_oneL (i := 15) (by kernel_rfl) rfl (fun K hK => ?_)
          go_simp
          obtain ⟨w156, hw⟩ : ∃ W, World.setCell w155 ⟨g, 1, none⟩ (.slice a1 v.arts.length k1) = W := ⟨_, rfl⟩
          rw [hw] at hwr
          rw [hw]
          replace HS := Lib.hid (HS.out.st 1 (.slice a1 v.arts.length k1) hwr)
          clear hw hwr c9 f9
          refine hK.out _ _ (fun _ => HCV.out _ HS.out.bel) (fun hHeld => ?_)
          replace hHeld := hHeld (by decide)
          clear hK K
          try simp only [Act.put]
          refine ztk 16 ?_
          try simp only [Act.put, List.setIfInBounds_toArray, List.set_cons_zero, List.set_cons_succ]
          have c9 : w156.cell? ⟨g, 2, none⟩ = some (d 41) := cell_of_blk HS.out.blk 2
          have f9 := free_of_blk HS.out.blk 2
          have hwr := wrote_setCell HS.out.blk 2 (.slice a2 v.secs.length k2)
          refine wpAnyZ_oneL (i := 17) (by kernel_rfl) rfl (fun K hK => ?_)
          go_simp
          obtain ⟨w157, hw⟩ : ∃ W, World.setCell w156 ⟨g, 2, none⟩ (.slice a2 v.secs.length k2) = W := ⟨_, rfl⟩
          rw [hw] at hwr
          rw [hw]
          replace HS := Lib.hid (HS.out.st 2 (.slice a2 v.secs.length k2) hwr)
          clear hw hwr c9 f9
          refine hK.out _ _ (fun _ => HCV.out _ HS.out.bel) (fun hHeld => ?_)
          replace hHeld := hHeld (by decide)
          clear hK K
          try simp only [Act.put]
          refine wpAnyZ_done (by kernel_rfl) ?_ _
          clear hHeld
          as_aux_lemma =>
          go_wp2_with fail
          go_meet
          exact ⟨rfl, _, _, _, HS.out⟩
        · go_simp
          obtain ⟨w158, hw⟩ : ∃ W, World.alloc w150 (.cells #[] tOut) = W := ⟨_, rfl⟩
          rw [hw]
          replace HS := Lib.hid (HS.out.b1 hw)
          generalize w150.heap.size = p1 at HS ⊢
          clear hw
          refine hK.out _ _ (fun _ => HCV.out _ HS.out.bel) (fun hHeld => ?_)
          replace hHeld := hHeld (by decide)
          clear hK K
          try simp only [Act.put, List.setIfInBounds_toArray, List.set_cons_zero, List.set_cons_succ]
          refine wpAnyZ_oneL (i := 3) (by kernel_rfl) rfl (fun K hK => ?_)
          rw [if_pos (by rfl)]
          refine HS.out.a0 zF1 HRV0.out (.tmp 12) (.tmp 14) rfl rfl rfl ?_
          intro u0 w159 hs
          replace HS := Lib.hid hs
          clear hs
          refine hK.out _ _ (fun _ => HCV.out _ HS.out.bel) (fun hHeld => ?_)
          replace hHeld := hHeld (by decide)
          clear hK K
          try simp only [Act.put, List.setIfInBounds_toArray, List.set_cons_zero, List.set_cons_succ]
          refine ztk 12 ?_
          try simp only [Act.put, List.setIfInBounds_toArray, List.set_cons_zero, List.set_cons_succ]
          refine wpAnyZ_oneL (i := 7) (by kernel_rfl) rfl (fun K hK => ?_)
          rw [if_pos (by rfl)]
          refine HS.out.a1 zA1 HRV1.out (.tmp 16) (.tmp 18) rfl rfl rfl ?_
          intro u1 w160 hs
          replace HS := Lib.hid hs
          clear hs
          refine hK.out _ _ (fun _ => HCV.out _ HS.out.bel) (fun hHeld => ?_)
          replace hHeld := hHeld (by decide)
          clear hK K
          try simp only [Act.put, List.setIfInBounds_toArray, List.set_cons_zero, List.set_cons_succ]
          refine wpAnyZ_oneL (i := 11) (by kernel_rfl) rfl (fun K hK => ?_)
          rw [if_pos (by rfl)]
          refine HS.out.a2 zS1 HRV2.out (.tmp 20) (.tmp 22) rfl rfl rfl ?_
          intro u2 w161 hs
          replace HS := Lib.hid hs
          clear hs
          refine hK.out _ _ (fun _ => HCV.out _ HS.out.bel) (fun hHeld => ?_)
          replace hHeld := hHeld (by decide)
          clear hK K
          try simp only [Act.put, List.setIfInBounds_toArray, List.set_cons_zero, List.set_cons_succ]
          obtain ⟨a0, k0, rfl⟩ := HS.out.form0
          obtain ⟨a1, k1, rfl⟩ := HS.out.form1
          obtain ⟨a2, k2, rfl⟩ := HS.out.form2
          have c9 : w161.cell? ⟨g, 0, none⟩ = some (d 39) := cell_of_blk HS.out.blk 0
          have f9 := free_of_blk HS.out.blk 0
          have hwr := wrote_setCell HS.out.blk 0 (.slice a0 v.files.length k0)
          refine wpAnyZ_oneL (i := 13) (by kernel_rfl) rfl (fun K hK => ?_)
          go_simp
          obtain ⟨w162, hw⟩ : ∃ W, World.setCell w161 ⟨g, 0, none⟩ (.slice a0 v.files.length k0) = W := ⟨_, rfl⟩
          rw [hw] at hwr
          rw [hw]
          replace HS := Lib.hid (HS.out.st 0 (.slice a0 v.files.length k0) hwr)
          clear hw hwr c9 f9
          refine hK.out _ _ (fun _ => HCV.out _ HS.out.bel) (fun hHeld => ?_)
          replace hHeld := hHeld (by decide)
          clear hK K
          try simp only [Act.put]
          refine ztk 14 ?_
          try simp only [Act.put, List.setIfInBounds_toArray, List.set_cons_zero, List.set_cons_succ]
          have c9 : w162.cell? ⟨g, 1, none⟩ = some (d 40) := cell_of_blk HS.out.blk 1
          have f9 := free_of_blk HS.out.blk 1
          have hwr := wrote_setCell HS.out.blk 1 (.slice a1 v.arts.length k1)
          refine wpAnyZ_oneL (i := 15) (by kernel_rfl) rfl (fun K hK => ?_)
          go_simp
          obtain ⟨w163, hw⟩ : ∃ W, World.setCell w162 ⟨g, 1, none⟩ (.slice a1 v.arts.length k1) = W := ⟨_, rfl⟩
          rw [hw] at hwr
          rw [hw]
          replace HS := Lib.hid (HS.out.st 1 (.slice a1 v.arts.length k1) hwr)
          clear hw hwr c9 f9
          refine hK.out _ _ (fun _ => HCV.out _ HS.out.bel) (fun hHeld => ?_)
          replace hHeld := hHeld (by decide)
          clear hK K
          try simp only [Act.put]
          refine ztk 16 ?_
          try simp only [Act.put, List.setIfInBounds_toArray, List.set_cons_zero, List.set_cons_succ]
          have c9 : w163.cell? ⟨g, 2, none⟩ = some (d 41) := cell_of_blk HS.out.blk 2
          have f9 := free_of_blk HS.out.blk 2
          have hwr := wrote_setCell HS.out.blk 2 (.slice a2 v.secs.length k2)
          refine wpAnyZ_oneL (i := 17) (by kernel_rfl) rfl (fun K hK => ?_)
          go_simp
          obtain ⟨w164, hw⟩ : ∃ W, World.setCell w163 ⟨g, 2, none⟩ (.slice a2 v.secs.length k2) = W := ⟨_, rfl⟩
          rw [hw] at hwr
          rw [hw]
          replace HS := Lib.hid (HS.out.st 2 (.slice a2 v.secs.length k2) hwr)
          clear hw hwr c9 f9
          refine hK.out _ _ (fun _ => HCV.out _ HS.out.bel) (fun hHeld => ?_)
          replace hHeld := hHeld (by decide)
          clear hK K
          try simp only [Act.put]
          refine wpAnyZ_done (by kernel_rfl) ?_ _
          clear hHeld
          as_aux_lemma =>
          go_wp2_with fail
          go_meet
          exact ⟨rfl, _, _, _, HS.out⟩
      · go_simp
        obtain ⟨w165, hw⟩ : ∃ W, World.alloc w149 (.cells #[] tOut) = W := ⟨_, rfl⟩
        rw [hw]
        replace HS := Lib.hid (HS.out.b1 hw)
        generalize w149.heap.size = p1 at HS ⊢
        clear hw
        refine hK.out _ _ (fun _ => HCV.out _ HS.out.bel) (fun hHeld => ?_)
        replace hHeld := hHeld (by decide)
        clear hK K
        try simp only [Act.put, List.setIfInBounds_toArray, List.set_cons_zero, List.set_cons_succ]
        refine wpAnyZ_oneL (i := 0) (by kernel_rfl) rfl (fun K hK => ?_)
        go_simp
        obtain ⟨w166, hw⟩ : ∃ W, World.alloc w165 (.cells #[] tFile) = W := ⟨_, rfl⟩
        rw [hw]
        replace HS := Lib.hid (HS.out.b0 hw)
        generalize w165.heap.size = p0 at HS ⊢
        clear hw
        refine hK.out _ _ (fun _ => HCV.out _ HS.out.bel) (fun hHeld => ?_)
        replace hHeld := hHeld (by decide)
        clear hK K
        try simp only [Act.put, List.setIfInBounds_toArray, List.set_cons_zero, List.set_cons_succ]
        refine wpAnyZ_oneL (i := 3) (by kernel_rfl) rfl (fun K hK => ?_)
        rw [if_pos (by rfl)]
        refine HS.out.a0 zF1 HRV0.out (.tmp 12) (.tmp 14) rfl rfl rfl ?_
        intro u0 w167 hs
        replace HS := Lib.hid hs
        clear hs
        refine hK.out _ _ (fun _ => HCV.out _ HS.out.bel) (fun hHeld => ?_)
        replace hHeld := hHeld (by decide)
        clear hK K
        try simp only [Act.put, List.setIfInBounds_toArray, List.set_cons_zero, List.set_cons_succ]
        refine ztk 12 ?_
        try simp only [Act.put, List.setIfInBounds_toArray, List.set_cons_zero, List.set_cons_succ]
        refine wpAnyZ_oneL (i := 7) (by kernel_rfl) rfl (fun K hK => ?_)
        rw [if_pos (by rfl)]
        refine HS.out.a1 zA1 HRV1.out (.tmp 16) (.tmp 18) rfl rfl rfl ?_
        intro u1 w168 hs
        replace HS := Lib.hid hs
        clear hs
        refine hK.out _ _ (fun _ => HCV.out _ HS.out.bel) (fun hHeld => ?_)
        replace hHeld := hHeld (by decide)
        clear hK K
        try simp only [Act.put, List.setIfInBounds_toArray, List.set_cons_zero, List.set_cons_succ]
        refine wpAnyZ_oneL (i := 11) (by kernel_rfl) rfl (fun K hK => ?_)
        rw [if_pos (by rfl)]
        refine HS.out.a2 zS1 HRV2.out (.tmp 20) (.tmp 22) rfl rfl rfl ?_
        intro u2 w169 hs
        replace HS := Lib.hid hs
        clear hs
        refine hK.out _ _ (fun _ => HCV.out _ HS.out.bel) (fun hHeld => ?_)
        replace hHeld := hHeld (by decide)
        clear hK K
        try simp only [Act.put, List.setIfInBounds_toArray, List.set_cons_zero, List.set_cons_succ]
        obtain ⟨a0, k0, rfl⟩ := HS.out.form0
        obtain ⟨a1, k1, rfl⟩ := HS.out.form1
        obtain ⟨a2, k2, rfl⟩ := HS.out.form2
        have c9 : w169.cell? ⟨g, 0, none⟩ = some (d 39) := cell_of_blk HS.out.blk 0
        have f9 := free_of_blk HS.out.blk 0
        have hwr := wrote_setCell HS.out.blk 0 (.slice a0 v.files.length k0)
        refine wpAnyZ_oneL (i := 13) (by kernel_rfl) rfl (fun K hK => ?_)
        go_simp
        obtain ⟨w170, hw⟩ : ∃ W, World.setCell w169 ⟨g, 0, none⟩ (.slice a0 v.files.length k0) = W := ⟨_, rfl⟩
        rw [hw] at hwr
        rw [hw]
        replace HS := Lib.hid (HS.out.st 0 (.slice a0 v.files.length k0) hwr)
        clear hw hwr c9 f9
        refine hK.out _ _ (fun _ => HCV.out _ HS.out.bel) (fun hHeld => ?_)
        replace hHeld := hHeld (by decide)
        clear hK K
        try simp only [Act.put]
        refine ztk 14 ?_
        try simp only [Act.put, List.setIfInBounds_toArray, List.set_cons_zero, List.set_cons_succ]
        have c9 : w170.cell? ⟨g, 1, none⟩ = some (d 40) := cell_of_blk HS.out.blk 1
        have f9 := free_of_blk HS.out.blk 1
        have hwr := wrote_setCell HS.out.blk 1 (.slice a1 v.arts.length k1)
        refine wpAnyZ_oneL (i := 15) (by kernel_rfl) rfl (fun K hK => ?_)
        go_simp
        obtain ⟨w171, hw⟩ : ∃ W, World.setCell w170 ⟨g, 1, none⟩ (.slice a1 v.arts.length k1) = W := ⟨_, rfl⟩
        rw [hw] at hwr
        rw [hw]
        replace HS := Lib.hid (HS.out.st 1 (.slice a1 v.arts.length k1) hwr)
        clear hw hwr c9 f9
        refine hK.out _ _ (fun _ => HCV.out _ HS.out.bel) (fun hHeld => ?_)
        replace hHeld := hHeld (by decide)
        clear hK K
        try simp only [Act.put]
        refine ztk 16 ?_
        try simp only [Act.put, List.setIfInBounds_toArray, List.set_cons_zero, List.set_cons_succ]
        have c9 : w171.cell? ⟨g, 2, none⟩ = some (d 41) := cell_of_blk HS.out.blk 2
        have f9 := free_of_blk HS.out.blk 2
        have hwr := wrote_setCell HS.out.blk 2 (.slice a2 v.secs.length k2)
        refine wpAnyZ_oneL (i := 17) (by kernel_rfl) rfl (fun K hK => ?_)
        go_simp
        obtain ⟨w172, hw⟩ : ∃ W, World.setCell w171 ⟨g, 2, none⟩ (.slice a2 v.secs.length k2) = W := ⟨_, rfl⟩
        rw [hw] at hwr
        rw [hw]
        replace HS := Lib.hid (HS.out.st 2 (.slice a2 v.secs.length k2) hwr)
        clear hw hwr c9 f9
        refine hK.out _ _ (fun _ => HCV.out _ HS.out.bel) (fun hHeld => ?_)
        replace hHeld := hHeld (by decide)
        clear hK K
        try simp only [Act.put]
        refine wpAnyZ_done (by kernel_rfl) ?_ _
        clear hHeld
        as_aux_lemma =>
        go_wp2_with fail
        go_meet
        exact ⟨rfl, _, _, _, HS.out⟩
  case rest =>
    obtain ⟨rfl, u0, u1, u2, hs⟩ := hcut
    have HS := Lib.hid hs
    obtain ⟨b0, zb0, yb0, ho0⟩ := hs.f
    obtain ⟨b1, zb1, yb1, ho1⟩ := hs.a
    obtain ⟨b2, zb2, yb2, ho2⟩ := hs.s
    have O0 := Lib.hid ho0
    have O1 := Lib.hid ho1
    have O2 := Lib.hid ho2
    have HBc := Lib.hid hs.bel
    have zgc := hs.lt
    clear hs ho0 ho1 ho2 HK5 HB5 zg5 HCV HRV0 HRV1 HRV2
    have q0 := HC0.out _ HBc.out
    go_wp2_with fail
    clear q0
    go_loopg [8] vw.files.length (LpRel EFile tFile g 0 #[u0, u1, u2, d 42, d 43, d 44, d 45, d 46, d 47] b0 (fun b => b < w.heap.size) wc u0 v.files vw.files (fun f : FileM => !declF j.inputs f.path))
    case atStart => exact ⟨0, u0, rfl, Nat.zero_le _, rfl, ⟨HS.out.blk, by rw [List.take_zero, List.filter_nil, List.append_nil]; exact O0.out, Kpt.refl _ _ _, fun q e => .inl e⟩⟩
    case round =>
      obtain ⟨i, u, rfl, hi, rfl, hlp⟩ := hrel
      have HL := Lib.hid hlp
      have HBg : Hid (Below g w4 wr) := HBc.out.trans (hlp.kpt.below (Nat.le_of_lt zgc) (fun q e => by have := (O0.out.low q e).1; omega))
      have zgr : g < wr.heap.size := (Array.getElem?_eq_some_iff.1 hlp.blk).1
      have zbr : b0 ≤ wr.heap.size := by have := hlp.kpt.size; omega
      clear hlp
      have q0 := HC0.out wr HBg.out
      by_cases hlt : i < vw.files.length
      · obtain ⟨bl, off, cs0, hlo, hBb, hbl0, hc, hR⟩ := HRW0.out.at hlt
        have hcs : cs0 = [.string vw.files[i].path, .int .u64 (vw.files[i].dig : Nat)] := hR
        subst hcs hlo
        have HEL : Hid (∀ W, Below g w4 W → W.cell? ⟨bl, off + i * 2, none⟩ = some (.string vw.files[i].path) ∧ W.cell? ⟨bl, off + i * 2 + 1, none⟩ = some (.int .u64 (vw.files[i].dig : Nat))) := fun W hb => by
          have k : ∀ (t : Nat) x, [Value.string vw.files[i].path, .int .u64 (vw.files[i].dig : Nat)][t]? = some x → W.cell? ⟨bl, off + i * 2 + t, none⟩ = some x := fun t x hx => (hb.cell (p := ⟨bl, off + i * 2 + t, none⟩) (show bl < g by omega)).trans (hc t x hx)
          exact ⟨k 0 _ rfl, k 1 _ rfl⟩
        have hii : (i : Int) < (vw.files.length : Int) := by omega
        have HFT := Lib.hid (filt_step (fun f : FileM => !declF j.inputs f.path) v.files vw.files hlt)
        have zfl := filt_len (fun f : FileM => !declF j.inputs f.path) vw.files i
        have HN := Lib.hid (HFN.out _ (List.getElem_mem hlt))
        generalize vw.files[i] = y at *
        clear hc hR
        go_upto_region 6 with fail
        refine wp_region_tailW 7 (by kernel_rfl) (by kernel_rfl) (fun W hW => ?_)
        have HBW : Hid (Below wr.heap.size wr W) := by unfold Hid; rw [hW]; exact (Below.refl _ _).drew
        have HBWg : Hid (Below g w4 W) := HBg.out.trans (HBW.out.mono (Nat.le_of_lt zgr))
        have HLW := Lib.hid (HL.out.later HBW.out)
        clear hW q0
        obtain ⟨q0, q1⟩ := HC0.out W HBWg.out
        have HQ1 := Lib.hid q1
        clear q1
        obtain ⟨e0, e1⟩ := HEL.out W HBWg.out
        obtain ⟨d, hd⟩ : ∃ d, declF j.inputs y.path = d := ⟨_, rfl⟩
        have DC := Lib.hid (DCL.out W y.path HN.out.1 HBWg.out)
        rw [hd] at DC
        have HD := Lib.hid hd
        clear hd
        simp only [List.take_succ_cons, List.take_zero, List.drop_succ_cons, List.drop_zero]
        refine wpStill_loadG (by rfl) tJob (.tmp 3) rfl w.heap.size 0 rfl (jobL c) _ HQ1.out Tryz.underlying38 rfl (by kernel_rfl) ?_
        try simp only [Act.put, List.setIfInBounds_toArray, List.set_cons_zero, List.set_cons_succ]
        iterate 6 still_step
        refine wpStill_nil ?_
        go_wp2_with fail
        refine DC.out.mono ?_
        rintro e w5 ⟨rfl, hb5⟩
        have HL5 := Lib.hid (HLW.out.later hb5)
        have HB5 : Hid (Below g w4 w5) := HBWg.out.trans (hb5.mono (by have := HBW.out.size; omega))
        have zb5 : wr.heap.size ≤ w5.heap.size := Nat.le_trans HBW.out.size hb5.size
        clear hb5 DC HLW HBWg HBW HL HQ1 q0 e0 e1
        cases d with
        | true =>
          have HT := Lib.hid (HFT.out.2 (by show (!declF j.inputs y.path) = false; rw [HD.out]; rfl))
          clear HFT
          as_aux_lemma =>
          go_wp2_with fail
          go_roundg (vw.files.length - (i + 1))
          case measure => omega
          case rel => exact ⟨i + 1, u, by go_num, by omega, rfl, by rw [HT.out]; exact HL5.out⟩
        | false =>
          have HT := Lib.hid (HFT.out.1 (by show (!declF j.inputs y.path) = true; rw [HD.out]; rfl))
          clear HFT
          as_aux_lemma =>
          go_upto_region 7 with fail
          have HDR : Hid (Below w5.heap.size w5 w5.drew) := (Below.refl _ _).drew
          have HL6 := Lib.hid (HL5.out.later HDR.out)
          have HBq6 : Hid (Below g w4 w5.drew) := HB5.out.trans (HDR.out.mono (by have := (Array.getElem?_eq_some_iff.1 HL5.out.blk).1; omega))
          have zd : b0 ≤ w5.drew.heap.size := Nat.le_trans zbr (Nat.le_trans zb5 HDR.out.size)
          have HS6 : Hid (∀ W, W.cell? ⟨g, 0, none⟩ = some u → Below g w4 W → W.cell? ⟨g, 0, none⟩ = some u ∧ W.cell? ⟨w.heap.size + 1 + 1, 0, none⟩ = some (.slice (some ⟨bl, off, none⟩) vw.files.length lc0) ∧ W.cell? ⟨bl, off + i * 2, none⟩ = some (.string y.path) ∧ W.cell? ⟨bl, off + i * 2 + 1, none⟩ = some (.int .u64 (y.dig : Nat))) := fun W h1 h2 => by
            have q0 := HC0.out W h2
            have e0 := HEL.out W h2
            exact ⟨h1, q0.1, e0⟩
          refine wp_region_Z (S := fun W' : World => W'.cell? ⟨g, 0, none⟩ = some u ∧ W'.cell? ⟨w.heap.size + 1 + 1, 0, none⟩ = some (.slice (some ⟨bl, off, none⟩) vw.files.length lc0) ∧ W'.cell? ⟨bl, off + i * 2, none⟩ = some (.string y.path) ∧ W'.cell? ⟨bl, off + i * 2 + 1, none⟩ = some (.int .u64 (y.dig : Nat))) 10 (by kernel_rfl) (HS6.out _ (HL6.out.cell (show 0 < 9 by decide)) HBq6.out) (fun hHeld => ?_)
          obtain ⟨wq6, hw6⟩ : ∃ W, w5.drew = W := ⟨_, rfl⟩
          rw [hw6] at HL6 HBq6 hHeld zd
          rw [hw6]
          clear hw6 HDR HL5 HB5
          refine ztk 0 ?_
          try simp only [Act.put, List.setIfInBounds_toArray, List.set_cons_zero, List.set_cons_succ]
          refine ztk 1 ?_
          try simp only [Act.put, List.setIfInBounds_toArray, List.set_cons_zero, List.set_cons_succ]
          refine ztk 2 ?_
          try simp only [Act.put, List.setIfInBounds_toArray, List.set_cons_zero, List.set_cons_succ]
          refine ztk 3 ?_
          try simp only [Act.put, List.setIfInBounds_toArray, List.set_cons_zero, List.set_cons_succ]
          refine ztk 4 ?_
          try simp only [Act.put, List.setIfInBounds_toArray, List.set_cons_zero, List.set_cons_succ]
          refine ztk 5 ?_
          try simp only [Act.put, List.setIfInBounds_toArray, List.set_cons_zero, List.set_cons_succ]
          refine ztk 6 ?_
          try simp only [Act.put, List.setIfInBounds_toArray, List.set_cons_zero, List.set_cons_succ]
          refine wpAnyZ_oneL (i := 7) (by kernel_rfl) rfl (fun K hK => ?_)
          rw [if_pos (by rfl)]
          refine wp_build1 39 tFile (.tmp 49) rfl #[.string y.path, .int .u64 (y.dig : Nat)] iK0 _ Tryz.underlying39 HI0.out hz0 2 hn0 (by decide) (by decide) rfl rfl ?_
          obtain ⟨wq7, hw7⟩ : ∃ W, wq6.alloc (.cells #[.string y.path, .int .u64 (y.dig : Nat)] tFile) = W := ⟨_, rfl⟩
          rw [hw7]
          obtain ⟨hk7, hb7, hz7⟩ := alloc_here hw7
          have HL7 := Lib.hid (HL6.out.later hb7)
          have HBq7 : Hid (Below g w4 wq7) := HBq6.out.trans (hb7.mono (by have := (Array.getElem?_eq_some_iff.1 HL6.out.blk).1; omega))
          clear hw7
          refine hK.out _ _ (fun _ => HS6.out _ (HL7.out.cell (show 0 < 9 by decide)) HBq7.out) (fun hHeld => ?_)
          replace hHeld := hHeld (by decide)
          clear hK K
          try simp only [Act.put, List.setIfInBounds_toArray, List.set_cons_zero, List.set_cons_succ]
          refine wpAnyZ_oneL (i := 8) (by kernel_rfl) rfl (fun K hK => ?_)
          rw [if_pos (by rfl)]
          refine wp_own_push (E := EFile) (.tmp 44) (.tmp 50) 39 rfl b0 tFile iK0 _ 24 Tryz.underlying39 HI0.out hz0 hn0 hy0 rfl _ u rfl HL7.out.own y [.string y.path, .int .u64 (y.dig : Nat)] rfl wq6.heap.size (0, 0) hk7 rfl (by unfold maxLen; rw [List.length_append]; omega) (by rw [List.length_append]; omega) (by omega) ?_
          intro v8 wq8 hown hgrow hpu
          have hk8 := HL7.out.blkPush zb0 hgrow
          have HBq8 : Below g w4 wq8 := HBq7.out.trans (below_grown hgrow (by have := (Array.getElem?_eq_some_iff.1 HL7.out.blk).1; omega) (fun q e => by have := (HL7.out.own.low q e).1; have := zb0; omega))
          have c8 : wq8.cell? ⟨g, 0, none⟩ = some u := cell_of_blk hk8 0
          have f8 := free_of_blk hk8 0
          have HWR := Lib.hid (wrote_setCell hk8 0 v8)
          have HP := Lib.hid (HL7.out.push zb0 (fun b h => Nat.ne_of_lt (by omega)) hown hgrow hpu HWR.out)
          obtain ⟨g8, p8, hv8⟩ := hpu.form
          generalize (v.files ++ (vw.files.take i).filter (fun f : FileM => !declF j.inputs f.path)).length + 1 = n8 at hv8
          subst hv8
          clear hown hgrow hpu hk8 hk7 hb7 hz7
          refine hK.out _ _ (fun _ => HS6.out _ c8 HBq8) (fun hHeld => ?_)
          replace hHeld := hHeld (by decide)
          clear hK K
          try simp only [Act.put, List.setIfInBounds_toArray, List.set_cons_zero, List.set_cons_succ]
          refine ztk 9 ?_
          try simp only [Act.put, List.setIfInBounds_toArray, List.set_cons_zero, List.set_cons_succ]
          refine wpAnyZ_oneL (i := 10) (by kernel_rfl) rfl (fun K hK => ?_)
          go_simp
          refine hK.out _ _ (fun h => absurd h (by decide)) (fun _ => ?_)
          clear hK K
          try simp only [Act.put]
          refine wpAnyZ_done (by kernel_rfl) ?_ _
          clear hHeld c8 f8
          as_aux_lemma =>
          go_wp2_with fail
          go_roundg (vw.files.length - (i + 1))
          case measure => omega
          case rel => exact ⟨i + 1, _, by go_num, by omega, rfl, by rw [HT.out]; exact HP.out⟩
      · have hii : ¬ (i : Int) < (vw.files.length : Int) := by omega
        have he : i = vw.files.length := by omega
        replace HL : Hid (Lp EFile tFile g 0 #[u0, u1, u2, d 42, d 43, d 44, d 45, d 46, d 47] b0 (fun b => b < w.heap.size) wc u0 (v.files ++ vw.files.filter (fun f : FileM => !declF j.inputs f.path)) u wr) := by unfold Hid; have := HL.out; rwa [he, List.take_length] at this
        clear he hi
        obtain ⟨w8, rfl⟩ : ∃ z, z = wr := ⟨_, rfl⟩
        obtain ⟨x0, rfl⟩ : ∃ z, z = u := ⟨_, rfl⟩
        have HB8 := Lib.hid HBg.out
        have KG8 : Hid (w8.heap[g]? = some (.cells #[x0, u1, u2, d 42, d 43, d 44, d 45, d 46, d 47] tView (0, 0))) := HL.out.blk
        have zg8 := zgr
        have hkz := HL.out.kpt.size
        have X0 := Lib.hid HL.out.own
        replace O1 := Lib.hid (own_kpt O1.out HL.out.kpt zb1 (own_apart O1.out O0.out (by decide)) (fun b h => ⟨Nat.ne_of_lt (by omega), fun e => by have := (O0.out.low b e).1; omega⟩))
        replace yb1 := Nat.le_trans yb1 hkz
        replace O2 := Lib.hid (own_kpt O2.out HL.out.kpt zb2 (own_apart O2.out O0.out (by decide)) (fun b h => ⟨Nat.ne_of_lt (by omega), fun e => by have := (O0.out.low b e).1; omega⟩))
        replace yb2 := Nat.le_trans yb2 hkz
        clear HL HBg zgr zbr hii O0 yb0 hkz
        have q1 := HC1.out _ HB8.out
        go_wp2_with fail
        clear q1
        go_loopg [9] vw.arts.length (LpRel EOut tOut g 1 #[x0, u1, u2, d 42, d 43, d 44, d 45, d 46, d 47] b1 (fun b => b < w.heap.size) w8 u1 v.arts vw.arts (fun o : OutM => !j.uses.contains o.name))
        case atStart => exact ⟨0, u1, rfl, Nat.zero_le _, rfl, ⟨KG8.out, by rw [List.take_zero, List.filter_nil, List.append_nil]; exact O1.out, Kpt.refl _ _ _, fun q e => .inl e⟩⟩
        case round =>
          obtain ⟨i, u, rfl, hi, rfl, hlp⟩ := hrel
          have HL := Lib.hid hlp
          have HBg : Hid (Below g w4 wr) := HB8.out.trans (hlp.kpt.below (Nat.le_of_lt zg8) (fun q e => by have := (O1.out.low q e).1; omega))
          have zgr : g < wr.heap.size := (Array.getElem?_eq_some_iff.1 hlp.blk).1
          have zbr : b1 ≤ wr.heap.size := by have := hlp.kpt.size; omega
          clear hlp
          have q0 := HC1.out wr HBg.out
          by_cases hlt : i < vw.arts.length
          · obtain ⟨bl, off, cs0, hlo, hBb, hbl0, hc, hR⟩ := HRW1.out.at hlt
            have hcs : cs0 = [.string vw.arts[i].name, .int .u64 (vw.arts[i].dig : Nat), .int .i64 vw.arts[i].size] := hR
            subst hcs hlo
            have HEL : Hid (∀ W, Below g w4 W → W.cell? ⟨bl, off + i * 3, none⟩ = some (.string vw.arts[i].name) ∧ W.cell? ⟨bl, off + i * 3 + 1, none⟩ = some (.int .u64 (vw.arts[i].dig : Nat)) ∧ W.cell? ⟨bl, off + i * 3 + 2, none⟩ = some (.int .i64 vw.arts[i].size)) := fun W hb => by
              have k : ∀ (t : Nat) x, [Value.string vw.arts[i].name, .int .u64 (vw.arts[i].dig : Nat), .int .i64 vw.arts[i].size][t]? = some x → W.cell? ⟨bl, off + i * 3 + t, none⟩ = some x := fun t x hx => (hb.cell (p := ⟨bl, off + i * 3 + t, none⟩) (show bl < g by omega)).trans (hc t x hx)
              exact ⟨k 0 _ rfl, k 1 _ rfl, k 2 _ rfl⟩
            have hii : (i : Int) < (vw.arts.length : Int) := by omega
            have HFT := Lib.hid (filt_step (fun o : OutM => !j.uses.contains o.name) v.arts vw.arts hlt)
            have zfl := filt_len (fun o : OutM => !j.uses.contains o.name) vw.arts i
            have HN := Lib.hid (HAN.out _ (List.getElem_mem hlt))
            generalize vw.arts[i] = y at *
            clear hc hR
            go_upto_region 11 with fail
            refine wp_region_tailW 8 (by kernel_rfl) (by kernel_rfl) (fun W hW => ?_)
            have HBW : Hid (Below wr.heap.size wr W) := by unfold Hid; rw [hW]; exact (Below.refl _ _).drew
            have HBWg : Hid (Below g w4 W) := HBg.out.trans (HBW.out.mono (Nat.le_of_lt zgr))
            have HLW := Lib.hid (HL.out.later HBW.out)
            clear hW q0
            obtain ⟨q0, q1⟩ := HC1.out W HBWg.out
            obtain ⟨e0, e1, e2⟩ := HEL.out W HBWg.out
            obtain ⟨d, hd⟩ : ∃ d, j.uses.contains y.name = d := ⟨_, rfl⟩
            have DC := Lib.hid (HAS1.out W y.name HBWg.out)
            rw [hd] at DC
            have HD := Lib.hid hd
            clear hd
            simp only [List.take_succ_cons, List.take_zero, List.drop_succ_cons, List.drop_zero]
            iterate 8 still_step
            refine wpStill_nil ?_
            go_wp2_with fail
            refine DC.out.mono ?_
            rintro e w5 ⟨rfl, hw5⟩
            have hb5 : Below W.heap.size W w5 := by rw [hw5]; exact Below.refl _ _
            clear hw5
            have HL5 := Lib.hid (HLW.out.later hb5)
            have HB5 : Hid (Below g w4 w5) := HBWg.out.trans (hb5.mono (by have := HBW.out.size; omega))
            have zb5 : wr.heap.size ≤ w5.heap.size := Nat.le_trans HBW.out.size hb5.size
            clear hb5 DC HLW HBWg HBW HL q0 q1 e0 e1 e2
            cases d with
            | true =>
              have HT := Lib.hid (HFT.out.2 (by show (!j.uses.contains y.name) = false; rw [HD.out]; rfl))
              clear HFT
              as_aux_lemma =>
              go_wp2_with fail
              go_roundg (vw.arts.length - (i + 1))
              case measure => omega
              case rel => exact ⟨i + 1, u, by go_num, by omega, rfl, by rw [HT.out]; exact HL5.out⟩
            | false =>
              have HT := Lib.hid (HFT.out.1 (by show (!j.uses.contains y.name) = true; rw [HD.out]; rfl))
              clear HFT
              as_aux_lemma =>
              go_upto_region 12 with fail
              have HDR : Hid (Below w5.heap.size w5 w5.drew) := (Below.refl _ _).drew
              have HL6 := Lib.hid (HL5.out.later HDR.out)
              have HBq6 : Hid (Below g w4 w5.drew) := HB5.out.trans (HDR.out.mono (by have := (Array.getElem?_eq_some_iff.1 HL5.out.blk).1; omega))
              have zd : b1 ≤ w5.drew.heap.size := Nat.le_trans zbr (Nat.le_trans zb5 HDR.out.size)
              have HS6 : Hid (∀ W, W.cell? ⟨g, 1, none⟩ = some u → Below g w4 W → W.cell? ⟨g, 1, none⟩ = some u ∧ W.cell? ⟨w.heap.size + 1 + 1, 1, none⟩ = some (.slice (some ⟨bl, off, none⟩) vw.arts.length lc1) ∧ W.cell? ⟨bl, off + i * 3, none⟩ = some (.string y.name) ∧ W.cell? ⟨bl, off + i * 3 + 1, none⟩ = some (.int .u64 (y.dig : Nat)) ∧ W.cell? ⟨bl, off + i * 3 + 2, none⟩ = some (.int .i64 y.size)) := fun W h1 h2 => by
                have q0 := HC1.out W h2
                have e0 := HEL.out W h2
                exact ⟨h1, q0.1, e0⟩
              refine wp_region_Z (S := fun W' : World => W'.cell? ⟨g, 1, none⟩ = some u ∧ W'.cell? ⟨w.heap.size + 1 + 1, 1, none⟩ = some (.slice (some ⟨bl, off, none⟩) vw.arts.length lc1) ∧ W'.cell? ⟨bl, off + i * 3, none⟩ = some (.string y.name) ∧ W'.cell? ⟨bl, off + i * 3 + 1, none⟩ = some (.int .u64 (y.dig : Nat)) ∧ W'.cell? ⟨bl, off + i * 3 + 2, none⟩ = some (.int .i64 y.size)) 10 (by kernel_rfl) (HS6.out _ (HL6.out.cell (show 1 < 9 by decide)) HBq6.out) (fun hHeld => ?_)
              obtain ⟨wq6, hw6⟩ : ∃ W, w5.drew = W := ⟨_, rfl⟩
              rw [hw6] at HL6 HBq6 hHeld zd
              rw [hw6]
              clear hw6 HDR HL5 HB5
              refine ztk 0 ?_
              try simp only [Act.put, List.setIfInBounds_toArray, List.set_cons_zero, List.set_cons_succ]
              refine ztk 1 ?_
              try simp only [Act.put, List.setIfInBounds_toArray, List.set_cons_zero, List.set_cons_succ]
              refine ztk 2 ?_
              try simp only [Act.put, List.setIfInBounds_toArray, List.set_cons_zero, List.set_cons_succ]
              refine ztk 3 ?_
              try simp only [Act.put, List.setIfInBounds_toArray, List.set_cons_zero, List.set_cons_succ]
              refine ztk 4 ?_
              try simp only [Act.put, List.setIfInBounds_toArray, List.set_cons_zero, List.set_cons_succ]
              refine ztk 5 ?_
              try simp only [Act.put, List.setIfInBounds_toArray, List.set_cons_zero, List.set_cons_succ]
              refine ztk 6 ?_
              try simp only [Act.put, List.setIfInBounds_toArray, List.set_cons_zero, List.set_cons_succ]
              refine wpAnyZ_oneL (i := 7) (by kernel_rfl) rfl (fun K hK => ?_)
              rw [if_pos (by rfl)]
              refine wp_build1 40 tOut (.tmp 76) rfl #[.string y.name, .int .u64 (y.dig : Nat), .int .i64 y.size] iK1 _ Tryz.underlying40 HI1.out hz1 3 hn1 (by decide) (by decide) rfl rfl ?_
              obtain ⟨wq7, hw7⟩ : ∃ W, wq6.alloc (.cells #[.string y.name, .int .u64 (y.dig : Nat), .int .i64 y.size] tOut) = W := ⟨_, rfl⟩
              rw [hw7]
              obtain ⟨hk7, hb7, hz7⟩ := alloc_here hw7
              have HL7 := Lib.hid (HL6.out.later hb7)
              have HBq7 : Hid (Below g w4 wq7) := HBq6.out.trans (hb7.mono (by have := (Array.getElem?_eq_some_iff.1 HL6.out.blk).1; omega))
              clear hw7
              refine hK.out _ _ (fun _ => HS6.out _ (HL7.out.cell (show 1 < 9 by decide)) HBq7.out) (fun hHeld => ?_)
              replace hHeld := hHeld (by decide)
              clear hK K
              try simp only [Act.put, List.setIfInBounds_toArray, List.set_cons_zero, List.set_cons_succ]
              refine wpAnyZ_oneL (i := 8) (by kernel_rfl) rfl (fun K hK => ?_)
              rw [if_pos (by rfl)]
              refine wp_own_push (E := EOut) (.tmp 71) (.tmp 77) 40 rfl b1 tOut iK1 _ 32 Tryz.underlying40 HI1.out hz1 hn1 hy1 rfl _ u rfl HL7.out.own y [.string y.name, .int .u64 (y.dig : Nat), .int .i64 y.size] rfl wq6.heap.size (0, 0) hk7 rfl (by unfold maxLen; rw [List.length_append]; omega) (by rw [List.length_append]; omega) (by omega) ?_
              intro v8 wq8 hown hgrow hpu
              have hk8 := HL7.out.blkPush zb1 hgrow
              have HBq8 : Below g w4 wq8 := HBq7.out.trans (below_grown hgrow (by have := (Array.getElem?_eq_some_iff.1 HL7.out.blk).1; omega) (fun q e => by have := (HL7.out.own.low q e).1; have := zb1; omega))
              have c8 : wq8.cell? ⟨g, 1, none⟩ = some u := cell_of_blk hk8 1
              have f8 := free_of_blk hk8 1
              have HWR := Lib.hid (wrote_setCell hk8 1 v8)
              have HP := Lib.hid (HL7.out.push zb1 (fun b h => Nat.ne_of_lt (by omega)) hown hgrow hpu HWR.out)
              obtain ⟨g8, p8, hv8⟩ := hpu.form
              generalize (v.arts ++ (vw.arts.take i).filter (fun o : OutM => !j.uses.contains o.name)).length + 1 = n8 at hv8
              subst hv8
              clear hown hgrow hpu hk8 hk7 hb7 hz7
              refine hK.out _ _ (fun _ => HS6.out _ c8 HBq8) (fun hHeld => ?_)
              replace hHeld := hHeld (by decide)
              clear hK K
              try simp only [Act.put, List.setIfInBounds_toArray, List.set_cons_zero, List.set_cons_succ]
              refine ztk 9 ?_
              try simp only [Act.put, List.setIfInBounds_toArray, List.set_cons_zero, List.set_cons_succ]
              refine wpAnyZ_oneL (i := 10) (by kernel_rfl) rfl (fun K hK => ?_)
              go_simp
              refine hK.out _ _ (fun h => absurd h (by decide)) (fun _ => ?_)
              clear hK K
              try simp only [Act.put]
              refine wpAnyZ_done (by kernel_rfl) ?_ _
              clear hHeld c8 f8
              as_aux_lemma =>
              go_wp2_with fail
              go_roundg (vw.arts.length - (i + 1))
              case measure => omega
              case rel => exact ⟨i + 1, _, by go_num, by omega, rfl, by rw [HT.out]; exact HP.out⟩
          · have hii : ¬ (i : Int) < (vw.arts.length : Int) := by omega
            have he : i = vw.arts.length := by omega
            replace HL : Hid (Lp EOut tOut g 1 #[x0, u1, u2, d 42, d 43, d 44, d 45, d 46, d 47] b1 (fun b => b < w.heap.size) w8 u1 (v.arts ++ vw.arts.filter (fun o : OutM => !j.uses.contains o.name)) u wr) := by unfold Hid; have := HL.out; rwa [he, List.take_length] at this
            clear he hi
            obtain ⟨w9, rfl⟩ : ∃ z, z = wr := ⟨_, rfl⟩
            obtain ⟨x1, rfl⟩ : ∃ z, z = u := ⟨_, rfl⟩
            have HB9 := Lib.hid HBg.out
            have KG9 : Hid (w9.heap[g]? = some (.cells #[x0, x1, u2, d 42, d 43, d 44, d 45, d 46, d 47] tView (0, 0))) := HL.out.blk
            have zg9 := zgr
            have hkz := HL.out.kpt.size
            have X1 := Lib.hid HL.out.own
            replace X0 := Lib.hid (own_kpt X0.out HL.out.kpt zb0 (own_apart X0.out O1.out (by decide)) (fun b h => ⟨Nat.ne_of_lt (by omega), fun e => by have := (O1.out.low b e).1; omega⟩))
            replace O2 := Lib.hid (own_kpt O2.out HL.out.kpt zb2 (own_apart O2.out O1.out (by decide)) (fun b h => ⟨Nat.ne_of_lt (by omega), fun e => by have := (O1.out.low b e).1; omega⟩))
            replace yb2 := Nat.le_trans yb2 hkz
            clear HL HBg zgr zbr hii O1 yb1 hkz
            have q2 := HC2.out _ HB9.out
            go_wp2_with fail
            clear q2
            go_loopg [10] vw.secs.length (LpRel ESec tSec g 2 #[x0, x1, u2, d 42, d 43, d 44, d 45, d 46, d 47] b2 (fun b => b < w.heap.size) w9 u2 v.secs vw.secs (fun s : SecM => !j.secrets.contains s.name))
            case atStart => exact ⟨0, u2, rfl, Nat.zero_le _, rfl, ⟨KG9.out, by rw [List.take_zero, List.filter_nil, List.append_nil]; exact O2.out, Kpt.refl _ _ _, fun q e => .inl e⟩⟩
            case round =>
              obtain ⟨i, u, rfl, hi, rfl, hlp⟩ := hrel
              have HL := Lib.hid hlp
              have HBg : Hid (Below g w4 wr) := HB9.out.trans (hlp.kpt.below (Nat.le_of_lt zg9) (fun q e => by have := (O2.out.low q e).1; omega))
              have zgr : g < wr.heap.size := (Array.getElem?_eq_some_iff.1 hlp.blk).1
              have zbr : b2 ≤ wr.heap.size := by have := hlp.kpt.size; omega
              clear hlp
              have q0 := HC2.out wr HBg.out
              by_cases hlt : i < vw.secs.length
              · obtain ⟨bl, off, cs0, hlo, hBb, hbl0, hc, hR⟩ := HRW2.out.at hlt
                obtain ⟨rv, ev, hcs, r1, r2⟩ := hR
                obtain ⟨ra, rc, rfl⟩ := r1.form
                obtain ⟨ea, ec, rfl⟩ := r2.form
                subst hcs hlo
                have HEL : Hid (∀ W, Below g w4 W → W.cell? ⟨bl, off + i * 5, none⟩ = some (.string vw.secs[i].name) ∧ W.cell? ⟨bl, off + i * 5 + 1, none⟩ = some (.string vw.secs[i].text) ∧ W.cell? ⟨bl, off + i * 5 + 2, none⟩ = some (.int .i64 vw.secs[i].level) ∧ W.cell? ⟨bl, off + i * 5 + 3, none⟩ = some (.slice ra vw.secs[i].refs.length rc) ∧ W.cell? ⟨bl, off + i * 5 + 4, none⟩ = some (.slice ea vw.secs[i].envs.length ec)) := fun W hb => by
                  have k : ∀ (t : Nat) x, [Value.string vw.secs[i].name, .string vw.secs[i].text, .int .i64 vw.secs[i].level, .slice ra vw.secs[i].refs.length rc, .slice ea vw.secs[i].envs.length ec][t]? = some x → W.cell? ⟨bl, off + i * 5 + t, none⟩ = some x := fun t x hx => (hb.cell (p := ⟨bl, off + i * 5 + t, none⟩) (show bl < g by omega)).trans (hc t x hx)
                  exact ⟨k 0 _ rfl, k 1 _ rfl, k 2 _ rfl, k 3 _ rfl, k 4 _ rfl⟩
                have hii : (i : Int) < (vw.secs.length : Int) := by omega
                have HFT := Lib.hid (filt_step (fun s : SecM => !j.secrets.contains s.name) v.secs vw.secs hlt)
                have zfl := filt_len (fun s : SecM => !j.secrets.contains s.name) vw.secs i
                have HN := Lib.hid (HSN.out _ (List.getElem_mem hlt))
                have HSR := Lib.hid r1
                have HSE := Lib.hid r2
                generalize vw.secs[i] = y at *
                clear hc r1 r2
                go_upto_region 16 with fail
                refine wp_region_tailW 8 (by kernel_rfl) (by kernel_rfl) (fun W hW => ?_)
                have HBW : Hid (Below wr.heap.size wr W) := by unfold Hid; rw [hW]; exact (Below.refl _ _).drew
                have HBWg : Hid (Below g w4 W) := HBg.out.trans (HBW.out.mono (Nat.le_of_lt zgr))
                have HLW := Lib.hid (HL.out.later HBW.out)
                clear hW q0
                obtain ⟨q0, q1⟩ := HC2.out W HBWg.out
                obtain ⟨e0, e1, e2, e3, e4⟩ := HEL.out W HBWg.out
                obtain ⟨d, hd⟩ : ∃ d, j.secrets.contains y.name = d := ⟨_, rfl⟩
                have DC := Lib.hid (HAS2.out W y.name HBWg.out)
                rw [hd] at DC
                have HD := Lib.hid hd
                clear hd
                simp only [List.take_succ_cons, List.take_zero, List.drop_succ_cons, List.drop_zero]
                iterate 8 still_step
                refine wpStill_nil ?_
                go_wp2_with fail
                refine DC.out.mono ?_
                rintro e w5 ⟨rfl, hw5⟩
                have hb5 : Below W.heap.size W w5 := by rw [hw5]; exact Below.refl _ _
                clear hw5
                have HL5 := Lib.hid (HLW.out.later hb5)
                have HB5 : Hid (Below g w4 w5) := HBWg.out.trans (hb5.mono (by have := HBW.out.size; omega))
                have zb5 : wr.heap.size ≤ w5.heap.size := Nat.le_trans HBW.out.size hb5.size
                clear hb5 DC HLW HBWg HBW HL q0 q1 e0 e1 e2 e3 e4
                cases d with
                | true =>
                  have HT := Lib.hid (HFT.out.2 (by show (!j.secrets.contains y.name) = false; rw [HD.out]; rfl))
                  clear HFT
                  as_aux_lemma =>
                  go_wp2_with fail
                  go_roundg (vw.secs.length - (i + 1))
                  case measure => omega
                  case rel => exact ⟨i + 1, u, by go_num, by omega, rfl, by rw [HT.out]; exact HL5.out⟩
                | false =>
                  have HT := Lib.hid (HFT.out.1 (by show (!j.secrets.contains y.name) = true; rw [HD.out]; rfl))
                  clear HFT
                  as_aux_lemma =>
                  go_upto_region 17 with fail
                  have HDR : Hid (Below w5.heap.size w5 w5.drew) := (Below.refl _ _).drew
                  have HL6 := Lib.hid (HL5.out.later HDR.out)
                  have HBq6 : Hid (Below g w4 w5.drew) := HB5.out.trans (HDR.out.mono (by have := (Array.getElem?_eq_some_iff.1 HL5.out.blk).1; omega))
                  have zd : b2 ≤ w5.drew.heap.size := Nat.le_trans zbr (Nat.le_trans zb5 HDR.out.size)
                  have HS6 : Hid (∀ W, W.cell? ⟨g, 2, none⟩ = some u → Below g w4 W → W.cell? ⟨g, 2, none⟩ = some u ∧ W.cell? ⟨w.heap.size + 1 + 1, 2, none⟩ = some (.slice (some ⟨bl, off, none⟩) vw.secs.length lc2) ∧ W.cell? ⟨bl, off + i * 5, none⟩ = some (.string y.name) ∧ W.cell? ⟨bl, off + i * 5 + 1, none⟩ = some (.string y.text) ∧ W.cell? ⟨bl, off + i * 5 + 2, none⟩ = some (.int .i64 y.level) ∧ W.cell? ⟨bl, off + i * 5 + 3, none⟩ = some (.slice ra y.refs.length rc) ∧ W.cell? ⟨bl, off + i * 5 + 4, none⟩ = some (.slice ea y.envs.length ec)) := fun W h1 h2 => by
                    have q0 := HC2.out W h2
                    have e0 := HEL.out W h2
                    exact ⟨h1, q0.1, e0⟩
                  refine wp_region_Z (S := fun W' : World => W'.cell? ⟨g, 2, none⟩ = some u ∧ W'.cell? ⟨w.heap.size + 1 + 1, 2, none⟩ = some (.slice (some ⟨bl, off, none⟩) vw.secs.length lc2) ∧ W'.cell? ⟨bl, off + i * 5, none⟩ = some (.string y.name) ∧ W'.cell? ⟨bl, off + i * 5 + 1, none⟩ = some (.string y.text) ∧ W'.cell? ⟨bl, off + i * 5 + 2, none⟩ = some (.int .i64 y.level) ∧ W'.cell? ⟨bl, off + i * 5 + 3, none⟩ = some (.slice ra y.refs.length rc) ∧ W'.cell? ⟨bl, off + i * 5 + 4, none⟩ = some (.slice ea y.envs.length ec)) 10 (by kernel_rfl) (HS6.out _ (HL6.out.cell (show 2 < 9 by decide)) HBq6.out) (fun hHeld => ?_)
                  obtain ⟨wq6, hw6⟩ : ∃ W, w5.drew = W := ⟨_, rfl⟩
                  rw [hw6] at HL6 HBq6 hHeld zd
                  rw [hw6]
                  clear hw6 HDR HL5 HB5
                  refine ztk 0 ?_
                  try simp only [Act.put, List.setIfInBounds_toArray, List.set_cons_zero, List.set_cons_succ]
                  refine ztk 1 ?_
                  try simp only [Act.put, List.setIfInBounds_toArray, List.set_cons_zero, List.set_cons_succ]
                  refine ztk 2 ?_
                  try simp only [Act.put, List.setIfInBounds_toArray, List.set_cons_zero, List.set_cons_succ]
                  refine ztk 3 ?_
                  try simp only [Act.put, List.setIfInBounds_toArray, List.set_cons_zero, List.set_cons_succ]
                  refine ztk 4 ?_
                  try simp only [Act.put, List.setIfInBounds_toArray, List.set_cons_zero, List.set_cons_succ]
                  refine ztk 5 ?_
                  try simp only [Act.put, List.setIfInBounds_toArray, List.set_cons_zero, List.set_cons_succ]
                  refine ztk 6 ?_
                  try simp only [Act.put, List.setIfInBounds_toArray, List.set_cons_zero, List.set_cons_succ]
                  refine wpAnyZ_oneL (i := 7) (by kernel_rfl) rfl (fun K hK => ?_)
                  rw [if_pos (by rfl)]
                  refine wp_build1 41 tSec (.tmp 103) rfl #[.string y.name, .string y.text, .int .i64 y.level, .slice ra y.refs.length rc, .slice ea y.envs.length ec] iK2 _ Tryz.underlying41 HI2.out hz2 5 hn2 (by decide) (by decide) rfl rfl ?_
                  obtain ⟨wq7, hw7⟩ : ∃ W, wq6.alloc (.cells #[.string y.name, .string y.text, .int .i64 y.level, .slice ra y.refs.length rc, .slice ea y.envs.length ec] tSec) = W := ⟨_, rfl⟩
                  rw [hw7]
                  obtain ⟨hk7, hb7, hz7⟩ := alloc_here hw7
                  have HL7 := Lib.hid (HL6.out.later hb7)
                  have HBq7 : Hid (Below g w4 wq7) := HBq6.out.trans (hb7.mono (by have := (Array.getElem?_eq_some_iff.1 HL6.out.blk).1; omega))
                  clear hw7
                  refine hK.out _ _ (fun _ => HS6.out _ (HL7.out.cell (show 2 < 9 by decide)) HBq7.out) (fun hHeld => ?_)
                  replace hHeld := hHeld (by decide)
                  clear hK K
                  try simp only [Act.put, List.setIfInBounds_toArray, List.set_cons_zero, List.set_cons_succ]
                  refine wpAnyZ_oneL (i := 8) (by kernel_rfl) rfl (fun K hK => ?_)
                  rw [if_pos (by rfl)]
                  refine wp_own_push (E := ESec) (.tmp 98) (.tmp 104) 41 rfl b2 tSec iK2 _ 88 Tryz.underlying41 HI2.out hz2 hn2 hy2 rfl _ u rfl HL7.out.own y [.string y.name, .string y.text, .int .i64 y.level, .slice ra y.refs.length rc, .slice ea y.envs.length ec] ⟨_, _, rfl, (HSR.out.keep HBq7.out.size (fun b h _ => HBq7.out.block b (by omega))).mono (fun b h => ⟨h, fun e => by have := (HL7.out.own.low b e).1; omega⟩), (HSE.out.keep HBq7.out.size (fun b h _ => HBq7.out.block b (by omega))).mono (fun b h => ⟨h, fun e => by have := (HL7.out.own.low b e).1; omega⟩)⟩ wq6.heap.size (0, 0) hk7 rfl (by unfold maxLen; rw [List.length_append]; omega) (by rw [List.length_append]; omega) (by omega) ?_
                  intro v8 wq8 hown hgrow hpu
                  have hk8 := HL7.out.blkPush zb2 hgrow
                  have HBq8 : Below g w4 wq8 := HBq7.out.trans (below_grown hgrow (by have := (Array.getElem?_eq_some_iff.1 HL7.out.blk).1; omega) (fun q e => by have := (HL7.out.own.low q e).1; have := zb2; omega))
                  have c8 : wq8.cell? ⟨g, 2, none⟩ = some u := cell_of_blk hk8 2
                  have f8 := free_of_blk hk8 2
                  have HWR := Lib.hid (wrote_setCell hk8 2 v8)
                  have HP := Lib.hid (HL7.out.push zb2 (fun b h => Nat.ne_of_lt (by omega)) hown hgrow hpu HWR.out)
                  obtain ⟨g8, p8, hv8⟩ := hpu.form
                  generalize (v.secs ++ (vw.secs.take i).filter (fun s : SecM => !j.secrets.contains s.name)).length + 1 = n8 at hv8
                  subst hv8
                  clear hown hgrow hpu hk8 hk7 hb7 hz7
                  refine hK.out _ _ (fun _ => HS6.out _ c8 HBq8) (fun hHeld => ?_)
                  replace hHeld := hHeld (by decide)
                  clear hK K
                  try simp only [Act.put, List.setIfInBounds_toArray, List.set_cons_zero, List.set_cons_succ]
                  refine ztk 9 ?_
                  try simp only [Act.put, List.setIfInBounds_toArray, List.set_cons_zero, List.set_cons_succ]
                  refine wpAnyZ_oneL (i := 10) (by kernel_rfl) rfl (fun K hK => ?_)
                  go_simp
                  refine hK.out _ _ (fun h => absurd h (by decide)) (fun _ => ?_)
                  clear hK K
                  try simp only [Act.put]
                  refine wpAnyZ_done (by kernel_rfl) ?_ _
                  clear hHeld c8 f8
                  as_aux_lemma =>
                  go_wp2_with fail
                  go_roundg (vw.secs.length - (i + 1))
                  case measure => omega
                  case rel => exact ⟨i + 1, _, by go_num, by omega, rfl, by rw [HT.out]; exact HP.out⟩
              · have hii : ¬ (i : Int) < (vw.secs.length : Int) := by omega
                have he : i = vw.secs.length := by omega
                replace HL : Hid (Lp ESec tSec g 2 #[x0, x1, u2, d 42, d 43, d 44, d 45, d 46, d 47] b2 (fun b => b < w.heap.size) w9 u2 (v.secs ++ vw.secs.filter (fun s : SecM => !j.secrets.contains s.name)) u wr) := by unfold Hid; have := HL.out; rwa [he, List.take_length] at this
                clear he hi
                obtain ⟨w10, rfl⟩ : ∃ z, z = wr := ⟨_, rfl⟩
                obtain ⟨x2, rfl⟩ : ∃ z, z = u := ⟨_, rfl⟩
                have HB10 := Lib.hid HBg.out
                have KG10 : Hid (w10.heap[g]? = some (.cells #[x0, x1, x2, d 42, d 43, d 44, d 45, d 46, d 47] tView (0, 0))) := HL.out.blk
                have zg10 := zgr
                have hkz := HL.out.kpt.size
                have X2 := Lib.hid HL.out.own
                replace X0 := Lib.hid (own_kpt X0.out HL.out.kpt zb0 (own_apart X0.out O2.out (by decide)) (fun b h => ⟨Nat.ne_of_lt (by omega), fun e => by have := (O2.out.low b e).1; omega⟩))
                replace X1 := Lib.hid (own_kpt X1.out HL.out.kpt zb1 (own_apart X1.out O2.out (by decide)) (fun b h => ⟨Nat.ne_of_lt (by omega), fun e => by have := (O2.out.low b e).1; omega⟩))
                clear HL HBg zgr zbr hii O2 yb2 hkz
                have q0 := HC3.out _ HB10.out
                have R0 : Hid (EFile.Row (fun b => b < w.heap.size ∨ g < b) w10 (v.files ++ vw.files.filter (fun f : FileM => !declF j.inputs f.path)) x0) := (X0.out.rowO.mono fun b hb => hb.elim Or.inl (fun e => .inr (by have := (X0.out.low b e).1; omega)))
                have R1 : Hid (EOut.Row (fun b => b < w.heap.size ∨ g < b) w10 (v.arts ++ vw.arts.filter (fun o : OutM => !j.uses.contains o.name)) x1) := (X1.out.rowO.mono fun b hb => hb.elim Or.inl (fun e => .inr (by have := (X1.out.low b e).1; omega)))
                have R2 : Hid (ESec.Row (fun b => b < w.heap.size ∨ g < b) w10 (v.secs ++ vw.secs.filter (fun s : SecM => !j.secrets.contains s.name)) x2) := (X2.out.rowO.mono fun b hb => hb.elim Or.inl (fun e => .inr (by have := (X2.out.low b e).1; omega)))
                clear X0 X1 X2
                go_upto_region 18 with fail
                clear q0
                have KG : Hid (w10.drew.heap[g]? = some (.cells #[x0, x1, x2, d 42, d 43, d 44, d 45, d 46, d 47] tView (0, 0))) := KG10.out
                have HBD : Hid (Below g w4 w10.drew) := HB10.out.drew
                replace R0 : Hid (EFile.Row (fun b => b < w.heap.size ∨ g < b) w10.drew (v.files ++ vw.files.filter (fun f : FileM => !declF j.inputs f.path)) x0) := R0.out.below (Below.refl _ _).drew
                replace R1 : Hid (EOut.Row (fun b => b < w.heap.size ∨ g < b) w10.drew (v.arts ++ vw.arts.filter (fun o : OutM => !j.uses.contains o.name)) x1) := R1.out.below (Below.refl _ _).drew
                replace R2 : Hid (ESec.Row (fun b => b < w.heap.size ∨ g < b) w10.drew (v.secs ++ vw.secs.filter (fun s : SecM => !j.secrets.contains s.name)) x2) := R2.out.below (Below.refl _ _).drew
                refine wp_region_Z (S := fun W' : World => W'.cell? ⟨w.heap.size + 1 + 1, 3, none⟩ = some (.slice lo3 vw.caches.length lc3) ∧ W'.cell? ⟨w.heap.size + 1 + 1, 6, none⟩ = some (.slice lo6 vw.times.length lc6) ∧ W'.cell? ⟨w.heap.size + 1 + 1, 7, none⟩ = some (.slice lo7 vw.ignored.length lc7) ∧ W'.cell? ⟨w.heap.size + 1 + 1, 8, none⟩ = some (.int .i64 vw.attempt)) 16 (by kernel_rfl) (HC3.out _ HBD.out) (fun hHeld => ?_)
                generalize w10.drew = w11 at HBD KG R0 R1 R2 hHeld ⊢
                clear KG10 HB10
                refine ztk 0 ?_
                try simp only [Act.put, List.setIfInBounds_toArray, List.set_cons_zero, List.set_cons_succ]
                refine ztk 1 ?_
                try simp only [Act.put, List.setIfInBounds_toArray, List.set_cons_zero, List.set_cons_succ]
                refine ztk 2 ?_
                try simp only [Act.put, List.setIfInBounds_toArray, List.set_cons_zero, List.set_cons_succ]
                refine ztk 3 ?_
                try simp only [Act.put, List.setIfInBounds_toArray, List.set_cons_zero, List.set_cons_succ]
                refine ztk 4 ?_
                try simp only [Act.put, List.setIfInBounds_toArray, List.set_cons_zero, List.set_cons_succ]
                refine ztk 5 ?_
                try simp only [Act.put, List.setIfInBounds_toArray, List.set_cons_zero, List.set_cons_succ]
                refine ztk 6 ?_
                try simp only [Act.put, List.setIfInBounds_toArray, List.set_cons_zero, List.set_cons_succ]
                refine ztk 7 ?_
                try simp only [Act.put, List.setIfInBounds_toArray, List.set_cons_zero, List.set_cons_succ]
                refine ztk 8 ?_
                try simp only [Act.put, List.setIfInBounds_toArray, List.set_cons_zero, List.set_cons_succ]
                have c9 : w11.cell? ⟨g, 3, none⟩ = some (d 42) := cell_of_blk KG.out 3
                have f9 := free_of_blk KG.out 3
                have hwr := wrote_setCell KG.out 3 (.slice lo3 vw.caches.length lc3)
                refine wpAnyZ_oneL (i := 9) (by kernel_rfl) rfl (fun K hK => ?_)
                go_simp
                obtain ⟨w12, hw⟩ : ∃ W, World.setCell w11 ⟨g, 3, none⟩ (.slice lo3 vw.caches.length lc3) = W := ⟨_, rfl⟩
                rw [hw] at hwr
                rw [hw]
                replace KG : Hid (w12.heap[g]? = some (.cells #[x0, x1, x2, .slice lo3 vw.caches.length lc3, d 43, d 44, d 45, d 46, d 47] tView (0, 0))) := hwr.at_
                replace HBD : Hid (Below g w4 w12) := HBD.out.trans (hwr.below (Nat.le_refl _))
                replace R0 := Lib.hid (R0.out.keep (Nat.le_of_eq hwr.size.symm) fun b hb _ => hwr.block b (by omega))
                replace R1 := Lib.hid (R1.out.keep (Nat.le_of_eq hwr.size.symm) fun b hb _ => hwr.block b (by omega))
                replace R2 := Lib.hid (R2.out.keep (Nat.le_of_eq hwr.size.symm) fun b hb _ => hwr.block b (by omega))
                clear hw hwr c9 f9
                refine hK.out _ _ (fun _ => HC3.out _ HBD.out) (fun hHeld => ?_)
                replace hHeld := hHeld (by decide)
                clear hK K
                try simp only [Act.put]
                refine ztk 10 ?_
                try simp only [Act.put, List.setIfInBounds_toArray, List.set_cons_zero, List.set_cons_succ]
                have c9 : w12.cell? ⟨g, 6, none⟩ = some (d 45) := cell_of_blk KG.out 6
                have f9 := free_of_blk KG.out 6
                have hwr := wrote_setCell KG.out 6 (.slice lo6 vw.times.length lc6)
                refine wpAnyZ_oneL (i := 11) (by kernel_rfl) rfl (fun K hK => ?_)
                go_simp
                obtain ⟨w13, hw⟩ : ∃ W, World.setCell w12 ⟨g, 6, none⟩ (.slice lo6 vw.times.length lc6) = W := ⟨_, rfl⟩
                rw [hw] at hwr
                rw [hw]
                replace KG : Hid (w13.heap[g]? = some (.cells #[x0, x1, x2, .slice lo3 vw.caches.length lc3, d 43, d 44, .slice lo6 vw.times.length lc6, d 46, d 47] tView (0, 0))) := hwr.at_
                replace HBD : Hid (Below g w4 w13) := HBD.out.trans (hwr.below (Nat.le_refl _))
                replace R0 := Lib.hid (R0.out.keep (Nat.le_of_eq hwr.size.symm) fun b hb _ => hwr.block b (by omega))
                replace R1 := Lib.hid (R1.out.keep (Nat.le_of_eq hwr.size.symm) fun b hb _ => hwr.block b (by omega))
                replace R2 := Lib.hid (R2.out.keep (Nat.le_of_eq hwr.size.symm) fun b hb _ => hwr.block b (by omega))
                clear hw hwr c9 f9
                refine hK.out _ _ (fun _ => HC3.out _ HBD.out) (fun hHeld => ?_)
                replace hHeld := hHeld (by decide)
                clear hK K
                try simp only [Act.put]
                refine ztk 12 ?_
                try simp only [Act.put, List.setIfInBounds_toArray, List.set_cons_zero, List.set_cons_succ]
                have c9 : w13.cell? ⟨g, 7, none⟩ = some (d 46) := cell_of_blk KG.out 7
                have f9 := free_of_blk KG.out 7
                have hwr := wrote_setCell KG.out 7 (.slice lo7 vw.ignored.length lc7)
                refine wpAnyZ_oneL (i := 13) (by kernel_rfl) rfl (fun K hK => ?_)
                go_simp
                obtain ⟨w14, hw⟩ : ∃ W, World.setCell w13 ⟨g, 7, none⟩ (.slice lo7 vw.ignored.length lc7) = W := ⟨_, rfl⟩
                rw [hw] at hwr
                rw [hw]
                replace KG : Hid (w14.heap[g]? = some (.cells #[x0, x1, x2, .slice lo3 vw.caches.length lc3, d 43, d 44, .slice lo6 vw.times.length lc6, .slice lo7 vw.ignored.length lc7, d 47] tView (0, 0))) := hwr.at_
                replace HBD : Hid (Below g w4 w14) := HBD.out.trans (hwr.below (Nat.le_refl _))
                replace R0 := Lib.hid (R0.out.keep (Nat.le_of_eq hwr.size.symm) fun b hb _ => hwr.block b (by omega))
                replace R1 := Lib.hid (R1.out.keep (Nat.le_of_eq hwr.size.symm) fun b hb _ => hwr.block b (by omega))
                replace R2 := Lib.hid (R2.out.keep (Nat.le_of_eq hwr.size.symm) fun b hb _ => hwr.block b (by omega))
                clear hw hwr c9 f9
                refine hK.out _ _ (fun _ => HC3.out _ HBD.out) (fun hHeld => ?_)
                replace hHeld := hHeld (by decide)
                clear hK K
                try simp only [Act.put]
                refine ztk 14 ?_
                try simp only [Act.put, List.setIfInBounds_toArray, List.set_cons_zero, List.set_cons_succ]
                have c9 : w14.cell? ⟨g, 8, none⟩ = some (d 47) := cell_of_blk KG.out 8
                have f9 := free_of_blk KG.out 8
                have hwr := wrote_setCell KG.out 8 (.int .i64 vw.attempt)
                refine wpAnyZ_oneL (i := 15) (by kernel_rfl) rfl (fun K hK => ?_)
                go_simp
                obtain ⟨w15, hw⟩ : ∃ W, World.setCell w14 ⟨g, 8, none⟩ (.int .i64 vw.attempt) = W := ⟨_, rfl⟩
                rw [hw] at hwr
                rw [hw]
                replace KG : Hid (w15.heap[g]? = some (.cells #[x0, x1, x2, .slice lo3 vw.caches.length lc3, d 43, d 44, .slice lo6 vw.times.length lc6, .slice lo7 vw.ignored.length lc7, .int .i64 vw.attempt] tView (0, 0))) := hwr.at_
                replace HBD : Hid (Below g w4 w15) := HBD.out.trans (hwr.below (Nat.le_refl _))
                replace R0 := Lib.hid (R0.out.keep (Nat.le_of_eq hwr.size.symm) fun b hb _ => hwr.block b (by omega))
                replace R1 := Lib.hid (R1.out.keep (Nat.le_of_eq hwr.size.symm) fun b hb _ => hwr.block b (by omega))
                replace R2 := Lib.hid (R2.out.keep (Nat.le_of_eq hwr.size.symm) fun b hb _ => hwr.block b (by omega))
                clear hw hwr c9 f9
                refine hK.out _ _ (fun _ => HC3.out _ HBD.out) (fun hHeld => ?_)
                replace hHeld := hHeld (by decide)
                clear hK K
                try simp only [Act.put]
                refine wpAnyZ_done (by kernel_rfl) ?_ _
                clear hHeld
                have HVA : Hid (VAt w15.heap.size (dV x0 x1 x2 (.slice lo3 vw.caches.length lc3) (d 43) (d 44) (.slice lo6 vw.times.length lc6) (.slice lo7 vw.ignored.length lc7) (.int .i64 vw.attempt)) (hiddenF (declF j.inputs) j v vw) w15) := ⟨(R0.out.lt.mono fun b hb => hb.2), (R1.out.lt.mono fun b hb => hb.2), (R2.out.lt.mono fun b hb => hb.2), ((HRW3.out.keep HBD.out.size (fun b hb _ => HBD.out.block b (by omega))).lt.mono fun b hb => hb.2), ((HV4.out.keys.keep HBD.out.size (fun b hb _ => HBD.out.block b (by omega))).lt.mono fun b hb => hb.2), ((HV4.out.tests.keep HBD.out.size (fun b hb _ => HBD.out.block b (by omega))).lt.mono fun b hb => hb.2), ((HRW6.out.keep HBD.out.size (fun b hb _ => HBD.out.block b (by omega))).lt.mono fun b hb => hb.2), ((HRW7.out.keep HBD.out.size (fun b hb _ => HBD.out.block b (by omega))).lt.mono fun b hb => hb.2), rfl⟩
                have HKR : Hid (w15.heap[w.heap.size + 1 + 1 + 1]? = some (.cells view0C tView (0, 0))) := (HBD.out.block _ (by omega)).trans HK4.out
                go_upto_region 19 with fail
                refine wp_region_lit ?_
                refine wpList_load_mid rfl tView (.tmp 7) rfl g 0 rfl (viewL (dV x0 x1 x2 (.slice lo3 vw.caches.length lc3) (d 43) (d 44) (.slice lo6 vw.times.length lc6) (.slice lo7 vw.ignored.length lc7) (.int .i64 vw.attempt))) _ (range_view KG.out) Tryz.underlying45 rfl (by kernel_rfl) ?_
                try simp only [Act.put, List.setIfInBounds_toArray, List.set_cons_zero, List.set_cons_succ]
                go_wp2_with (refine wpList_store_row rfl tView _ _ rfl (w.heap.size + 1 + 1 + 1) rfl tView _ HKR.out (.agg (viewC (dV x0 x1 x2 (.slice lo3 vw.caches.length lc3) (d 43) (d 44) (.slice lo6 vw.times.length lc6) (.slice lo7 vw.ignored.length lc7) (.int .i64 vw.attempt)))) rfl (by kernel_rfl) rfl (view_one HVA.out) ?_)
                intro wz hwz
                have HZ : Hid (wz.heap[w.heap.size + 1 + 1 + 1]? = some (.cells (viewC (dV x0 x1 x2 (.slice lo3 vw.caches.length lc3) (d 43) (d 44) (.slice lo6 vw.times.length lc6) (.slice lo7 vw.ignored.length lc7) (.int .i64 vw.attempt))) tView (0, 0))) := hwz.at_
                have HVZ : Hid (VAt wz.heap.size (dV x0 x1 x2 (.slice lo3 vw.caches.length lc3) (d 43) (d 44) (.slice lo6 vw.times.length lc6) (.slice lo7 vw.ignored.length lc7) (.int .i64 vw.attempt)) (hiddenF (declF j.inputs) j v vw) wz) := ⟨((R0.out.keep (Nat.le_of_eq hwz.size.symm) (fun b hb _ => hwz.block b (by omega))).lt.mono fun b hb => hb.2), ((R1.out.keep (Nat.le_of_eq hwz.size.symm) (fun b hb _ => hwz.block b (by omega))).lt.mono fun b hb => hb.2), ((R2.out.keep (Nat.le_of_eq hwz.size.symm) (fun b hb _ => hwz.block b (by omega))).lt.mono fun b hb => hb.2), (((HRW3.out.keep HBD.out.size (fun b hb _ => HBD.out.block b (by omega))).keep (Nat.le_of_eq hwz.size.symm) (fun b hb _ => hwz.block b (by omega))).lt.mono fun b hb => hb.2), (((HV4.out.keys.keep HBD.out.size (fun b hb _ => HBD.out.block b (by omega))).keep (Nat.le_of_eq hwz.size.symm) (fun b hb _ => hwz.block b (by omega))).lt.mono fun b hb => hb.2), (((HV4.out.tests.keep HBD.out.size (fun b hb _ => HBD.out.block b (by omega))).keep (Nat.le_of_eq hwz.size.symm) (fun b hb _ => hwz.block b (by omega))).lt.mono fun b hb => hb.2), (((HRW6.out.keep HBD.out.size (fun b hb _ => HBD.out.block b (by omega))).keep (Nat.le_of_eq hwz.size.symm) (fun b hb _ => hwz.block b (by omega))).lt.mono fun b hb => hb.2), (((HRW7.out.keep HBD.out.size (fun b hb _ => HBD.out.block b (by omega))).keep (Nat.le_of_eq hwz.size.symm) (fun b hb _ => hwz.block b (by omega))).lt.mono fun b hb => hb.2), rfl⟩
                have HBW : Hid (Below w.heap.size w wz) := HB4.out.trans ((HBD.out.mono (by omega)).trans (hwz.below (by omega)))
                clear hwz
                as_aux_lemma =>
                go_wp2_with fail
                exact bodyPost_ret (results_row1 rfl _ _ (w.heap.size + 1 + 1 + 1) tView _ (0, 0) _ rfl HZ.out Tryz.underlying45 rfl (by kernel_rfl)) rfl (by exact ⟨(dV x0 x1 x2 (.slice lo3 vw.caches.length lc3) (d 43) (d 44) (.slice lo6 vw.times.length lc6) (.slice lo7 vw.ignored.length lc7) (.int .i64 vw.attempt)), rfl, HVZ.out, HBW.out⟩)
end Go.Proofs.YtghahghbahcpfaaGreatDoor
