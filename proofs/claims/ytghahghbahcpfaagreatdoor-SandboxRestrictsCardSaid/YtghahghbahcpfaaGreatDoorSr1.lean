/- The walk over the reference's Restrict. -/
import Derived.Test.YtghahghbahcpfaaGreatDoorSt4
import Derived.Test.YtghahghbahcpfaaGreatDoorSt5
import Derived.StillTailTactics
namespace Go.Proofs.YtghahghbahcpfaaGreatDoor
open Go.RowKit

set_option maxRecDepth 100000 in
set_option maxHeartbeats 12800000 in
theorem rrestrict_any (c : Nat → Value) (j : JobM) (v : ViewM) (hJ : JB j) (hB : VB v) (w : World) (hv : VAt w.heap.size c v w) (hj : JAt w.heap.size c j w) :
    Calls Tryz.prog 18 #[jobA c, viewA c] w (RePost j v w) := by
  obtain ⟨w1, hw1⟩ : ∃ w1, w.alloc (.cells (jobC c) tJob (0, 0)) = w1 := ⟨_, rfl⟩
  obtain ⟨w2, hw2⟩ : ∃ w2, w1.alloc (.cells (viewC c) tView (0, 0)) = w2 := ⟨_, rfl⟩
  obtain ⟨w3, hw3⟩ : ∃ w3, w2.alloc (.cells view0C tView (0, 0)) = w3 := ⟨_, rfl⟩
  have hs1 : w1.heap.size = w.heap.size + 1 := by rw [← hw1]; simp
  have hs2 : w2.heap.size = w.heap.size + 1 + 1 := by rw [← hw2]; simp [hs1]
  have hs3 : w3.heap.size = w.heap.size + 1 + 1 + 1 := by rw [← hw3]; simp [hs2]
  have hk1 : w3.heap[w.heap.size]? = some (.cells (jobC c) tJob (0, 0)) := by rw [← hw3]; exact (hp_old (by omega)).trans (by rw [← hw2]; exact (hp_old (by omega)).trans (by rw [← hw1]; exact hp_new rfl))
  have hk2 : w3.heap[w.heap.size + 1]? = some (.cells (viewC c) tView (0, 0)) := by rw [← hw3]; exact (hp_old (by omega)).trans (by rw [← hw2]; exact hp_new (by omega))
  have hk3 : w3.heap[w.heap.size + 1 + 1]? = some (.cells view0C tView (0, 0)) := by rw [← hw3]; exact hp_new (by omega)
  have hb3 : Below w.heap.size w w3 := by rw [← hw3, ← hw2, ← hw1]; exact (((Below.refl _ w).alloc (Nat.le_refl _) _).alloc (by simp) _).alloc (by simp; omega) _
  have hv3 := hv.below hb3
  have hj3 := hj.below hb3
  have HV1 := Lib.hid (view_one hv)
  obtain ⟨lo0, lc0, h39⟩ := hv.files.form
  obtain ⟨lo1, lc1, h40⟩ := hv.arts.form
  obtain ⟨lo2, lc2, h41⟩ := hv.secs.form
  obtain ⟨lo3, lc3, h42⟩ := hv.caches.form
  obtain ⟨lo4, lc4, h43⟩ := hv.keys.form
  obtain ⟨io, ic, h24⟩ := hj.inputs.form
  obtain ⟨uo, uc, h25⟩ := hj.uses.form
  obtain ⟨qo, qc, h28⟩ := hj.secrets.form
  obtain ⟨mo, mc, h27⟩ := hj.caches
  have HRW0 := Lib.hid hv3.files
  have HRW1 := Lib.hid hv3.arts
  have HRW2 := Lib.hid hv3.secs
  have HRW3 := Lib.hid hv3.caches
  have HRW4 := Lib.hid hv3.keys
  rw [h39] at HRW0
  rw [h40] at HRW1
  rw [h41] at HRW2
  rw [h42] at HRW3
  rw [h43] at HRW4
  have HV3 := Lib.hid hv3
  obtain ⟨g, hg⟩ : ∃ g, w3.heap.size = g := ⟨_, rfl⟩
  have hcl : ∀ W, Below g w3 W → W.heap[w.heap.size]? = some (.cells (jobC c) tJob (0, 0)) ∧ W.heap[w.heap.size + 1]? = some (.cells (viewC c) tView (0, 0)) := fun W hb => ⟨(hb.block _ (by omega)).trans hk1, (hb.block _ (by omega)).trans hk2⟩
  have HC0 : Hid (∀ W, Below g w3 W → W.cell? ⟨w.heap.size + 1, 0, none⟩ = some (.slice lo0 v.files.length lc0) ∧ W.rangeAt w.heap.size 0 (jobL c)) := fun W hb => ⟨by rw [← h39]; exact cell_of_blk (hcl W hb).2 0, range_job (hcl W hb).1⟩
  have HC1 : Hid (∀ W, Below g w3 W → W.cell? ⟨w.heap.size + 1, 1, none⟩ = some (.slice lo1 v.arts.length lc1) ∧ W.cell? ⟨w.heap.size, 25, none⟩ = some (.slice uo j.uses.length uc)) := fun W hb => ⟨by rw [← h40]; exact cell_of_blk (hcl W hb).2 1, by rw [← h25]; exact cell_of_blk (hcl W hb).1 25⟩
  have HC2 : Hid (∀ W, Below g w3 W → W.cell? ⟨w.heap.size + 1, 2, none⟩ = some (.slice lo2 v.secs.length lc2) ∧ W.cell? ⟨w.heap.size, 28, none⟩ = some (.slice qo j.secrets.length qc)) := fun W hb => ⟨by rw [← h41]; exact cell_of_blk (hcl W hb).2 2, by rw [← h28]; exact cell_of_blk (hcl W hb).1 28⟩
  have HC3 : Hid (∀ W, Below g w3 W → W.cell? ⟨w.heap.size + 1, 3, none⟩ = some (.slice lo3 v.caches.length lc3) ∧ W.cell? ⟨w.heap.size + 1, 4, none⟩ = some (.slice lo4 v.keys.length lc4) ∧ W.cell? ⟨w.heap.size, 27, none⟩ = some (.slice mo j.ncach mc)) := fun W hb => ⟨by rw [← h42]; exact cell_of_blk (hcl W hb).2 3, by rw [← h43]; exact cell_of_blk (hcl W hb).2 4, by rw [← h27]; exact cell_of_blk (hcl W hb).1 27⟩
  have DCL : Hid (∀ W p, p.size ≤ 10000 → Below g w3 W → Calls Tryz.prog 20 #[jobA c, .string p] W fun e w' => e = .returned (.bool (declF j.inputs p)) ∧ Below W.heap.size W w') := fun W p hp hb => by
    have h1 := (hj3.below (hb.mono (by omega))).inputs
    rw [h24] at h1
    exact rdecl_any c j.inputs io ic p _ (by omega) hJ.inputs hJ.inputN h24 W h1
  have HAS1 : Hid (∀ W k, Below g w3 W → Calls Tryz.prog 27 #[.slice uo j.uses.length uc, .string k] W fun e w' => e = .returned (.bool (j.uses.contains k)) ∧ w' = W) := fun W k hb => by
    have h1 := (hj3.below (hb.mono (by omega))).uses
    rw [h25] at h1
    exact rhas_any k _ j.uses _ (by have := hJ.uses; omega) W h1
  have HAS2 : Hid (∀ W k, Below g w3 W → Calls Tryz.prog 27 #[.slice qo j.secrets.length qc, .string k] W fun e w' => e = .returned (.bool (j.secrets.contains k)) ∧ w' = W) := fun W k hb => by
    have h1 := (hj3.below (hb.mono (by omega))).secrets
    rw [h28] at h1
    exact rhas_any k _ j.secrets _ (by have := hJ.secrets; omega) W h1
  have HFN := Lib.hid hB.fileN
  have HAN := Lib.hid hB.artN
  have HSN := Lib.hid hB.secN
  have zF := hB.files
  have zA := hB.arts
  have zS := hB.secs
  have HB3 := Lib.hid hb3
  have HK3 := Lib.hid hk3
  have HW1 := Lib.hid hw1
  have HW2 := Lib.hid hw2
  have HW3 := Lib.hid hw3
  have HRG := Lib.hid (range_view hk2)
  have hg3 := Nat.le_of_eq hg
  have hg4 := Nat.le_of_eq hg.symm
  have hsz := Nat.le_of_eq hs3
  have hsz2 := Nat.le_of_eq hs3.symm
  obtain ⟨iK0, hI0, hz0, hn0, hy0⟩ := Tryz.infoFile'
  obtain ⟨iK1, hI1, hz1, hn1, hy1⟩ := Tryz.infoOut'
  obtain ⟨iK2, hI2, hz2, hn2, hy2⟩ := Tryz.infoSec'
  have HI0 := Lib.hid hI0
  have HI1 := Lib.hid hI1
  have HI2 := Lib.hid hI2
  clear hv hj hJ hB hk1 hk2 hk3 hb3 hw1 hw2 hw3 hs1 hs2 hs3 h39 h40 h41 h42 h43 h24 h25 h28 h27 hv3 hj3 hcl hI0 hI1 hI2
  go_enter Tryz.func18, Tryz.ntmps18
  go_upto_region 1 with fail
  rw [HW1.out, HW2.out, HW3.out]
  clear HW1 HW2 HW3
  refine wp_region_lit ?_
  refine wpList_load_mid rfl tView (.tmp 3) rfl (w.heap.size + 1) 0 rfl (viewL c) _ HRG.out Tryz.underlying45 rfl (by kernel_rfl) ?_
  try simp only [Act.put, List.setIfInBounds_toArray, List.set_cons_zero, List.set_cons_succ]
  go_wp2_with (refine wpList_store_row rfl tView _ _ rfl g rfl tView _ (hp_new (by omega)) (.agg (viewC c)) rfl (by kernel_rfl) rfl HV1.out ?_)
  intro w4 hw4
  have hk4 : w4.heap[g]? = some (.cells (viewC c) tView (0, 0)) := hw4.at_
  have hb4 : Below g w3 w4 := ((Below.refl _ w3).alloc (by omega) _).trans (hw4.below (Nat.le_refl _))
  have HB4 := Lib.hid hb4
  clear hw4 hb4 hg HRG HV1
  go_upto_region 2 with fail
  refine wp_region_lit ?_
  have c4 : w4.cell? ⟨g, 0, none⟩ = some (c 39) := cell_of_blk hk4 0
  have f4 := free_of_blk hk4 0
  refine wpList_plain rfl (fun K hK => ?_)
  go_simp
  refine hK _ _ ?_
  clear hK K
  try simp only [Act.put, List.setIfInBounds_toArray, List.set_cons_zero, List.set_cons_succ]
  refine wpList_plain rfl (fun K hK => ?_)
  go_simp
  refine hK _ _ ?_
  clear hK K
  try simp only [Act.put]
  have HWR := Lib.hid (wrote_setCell hk4 0 (.slice none 0 0))
  obtain ⟨w5, hw5⟩ : ∃ W, w4.setCell ⟨g, 0, none⟩ (.slice none 0 0) = W := ⟨_, rfl⟩
  rw [hw5] at HWR
  rw [hw5]
  clear hw5 c4 f4 hk4
  have hk5 : w5.heap[g]? = some (.cells #[.slice none 0 0, c 40, c 41, c 42, c 43, c 44, c 45, c 46, c 47] tView (0, 0)) := HWR.out.at_
  have HB5 : Hid (Below g w3 w5) := HB4.out.trans (HWR.out.below (Nat.le_refl _))
  clear HWR
  have c5 : w5.cell? ⟨g, 1, none⟩ = some (c 40) := cell_of_blk hk5 1
  have f5 := free_of_blk hk5 1
  refine wpList_plain rfl (fun K hK => ?_)
  go_simp
  refine hK _ _ ?_
  clear hK K
  try simp only [Act.put, List.setIfInBounds_toArray, List.set_cons_zero, List.set_cons_succ]
  refine wpList_plain rfl (fun K hK => ?_)
  go_simp
  refine hK _ _ ?_
  clear hK K
  try simp only [Act.put]
  have HWR := Lib.hid (wrote_setCell hk5 1 (.slice none 0 0))
  obtain ⟨w6, hw6⟩ : ∃ W, w5.setCell ⟨g, 1, none⟩ (.slice none 0 0) = W := ⟨_, rfl⟩
  rw [hw6] at HWR
  rw [hw6]
  clear hw6 c5 f5 hk5
  have hk6 : w6.heap[g]? = some (.cells #[.slice none 0 0, .slice none 0 0, c 41, c 42, c 43, c 44, c 45, c 46, c 47] tView (0, 0)) := HWR.out.at_
  have HB6 : Hid (Below g w3 w6) := HB5.out.trans (HWR.out.below (Nat.le_refl _))
  clear HWR
  have c6 : w6.cell? ⟨g, 2, none⟩ = some (c 41) := cell_of_blk hk6 2
  have f6 := free_of_blk hk6 2
  refine wpList_plain rfl (fun K hK => ?_)
  go_simp
  refine hK _ _ ?_
  clear hK K
  try simp only [Act.put, List.setIfInBounds_toArray, List.set_cons_zero, List.set_cons_succ]
  refine wpList_plain rfl (fun K hK => ?_)
  go_simp
  refine hK _ _ ?_
  clear hK K
  try simp only [Act.put]
  have HWR := Lib.hid (wrote_setCell hk6 2 (.slice none 0 0))
  obtain ⟨w7, hw7⟩ : ∃ W, w6.setCell ⟨g, 2, none⟩ (.slice none 0 0) = W := ⟨_, rfl⟩
  rw [hw7] at HWR
  rw [hw7]
  clear hw7 c6 f6 hk6
  have hk7 : w7.heap[g]? = some (.cells #[.slice none 0 0, .slice none 0 0, .slice none 0 0, c 42, c 43, c 44, c 45, c 46, c 47] tView (0, 0)) := HWR.out.at_
  have HB7 : Hid (Below g w3 w7) := HB6.out.trans (HWR.out.below (Nat.le_refl _))
  clear HWR
  have zg7 : g < w7.heap.size := (Array.getElem?_eq_some_iff.1 hk7).1
  have HK7 := Lib.hid hk7
  clear hk7 HB4 HB5 HB6
  have q0 := HC0.out _ HB7.out
  go_wp2_with fail
  clear q0
  go_loopg [6] v.files.length (LpRel EFile tFile g 0 #[.slice none 0 0, .slice none 0 0, .slice none 0 0, c 42, c 43, c 44, c 45, c 46, c 47] w7.heap.size noB w7 (.slice none 0 0) [] v.files (fun f : FileM => declF j.inputs f.path))
  case atStart => exact ⟨0, (.slice none 0 0), rfl, Nat.zero_le _, rfl, ⟨HK7.out, ElemK.Own.nil, Kpt.refl _ _ _, fun q e => by cases e⟩⟩
  case round =>
    obtain ⟨i, u, rfl, hi, rfl, hlp⟩ := hrel
    have HL := Lib.hid hlp
    have HBg : Hid (Below g w3 wr) := HB7.out.trans (hlp.kpt.below (Nat.le_of_lt zg7) (fun q e => by cases e))
    have zgr : g < wr.heap.size := (Array.getElem?_eq_some_iff.1 hlp.blk).1
    have zbr : w7.heap.size ≤ wr.heap.size := hlp.kpt.size
    clear hlp
    have q0 := HC0.out wr HBg.out
    by_cases hlt : i < v.files.length
    · obtain ⟨bl, off, cs0, hlo, hBb, hbl0, hc, hR⟩ := HRW0.out.at hlt
      have hcs : cs0 = [.string v.files[i].path, .int .u64 (v.files[i].dig : Nat)] := hR
      subst hcs hlo
      have HEL : Hid (∀ W, Below g w3 W → W.cell? ⟨bl, off + i * 2, none⟩ = some (.string v.files[i].path) ∧ W.cell? ⟨bl, off + i * 2 + 1, none⟩ = some (.int .u64 (v.files[i].dig : Nat))) := fun W hb => by
        have k : ∀ (t : Nat) x, [Value.string v.files[i].path, .int .u64 (v.files[i].dig : Nat)][t]? = some x → W.cell? ⟨bl, off + i * 2 + t, none⟩ = some x := fun t x hx => (hb.cell (p := ⟨bl, off + i * 2 + t, none⟩) (show bl < g by omega)).trans (hc t x hx)
        exact ⟨k 0 _ rfl, k 1 _ rfl⟩
      have hii : (i : Int) < (v.files.length : Int) := by omega
      have HFT := Lib.hid (filt_step (fun f : FileM => declF j.inputs f.path) [] v.files hlt)
      have zfl := filt_len (fun f : FileM => declF j.inputs f.path) v.files i
      have HN := Lib.hid (HFN.out _ (List.getElem_mem hlt))
      generalize v.files[i] = y at *
      clear hc hR
      go_upto_region 6 with fail
      refine wp_region_tailW 7 (by kernel_rfl) (by kernel_rfl) (fun W hW => ?_)
      have HBW : Hid (Below wr.heap.size wr W) := by unfold Hid; rw [hW]; exact (Below.refl _ _).drew
      have HBWg : Hid (Below g w3 W) := HBg.out.trans (HBW.out.mono (Nat.le_of_lt zgr))
      have HLW := Lib.hid (HL.out.later HBW.out)
      clear hW q0
      obtain ⟨q0, q1⟩ := HC0.out W HBWg.out
      have HQ1 := Lib.hid q1
      clear q1
      obtain ⟨e0, e1⟩ := HEL.out W HBWg.out
      obtain ⟨d, hd⟩ : ∃ d, declF j.inputs y.path = d := ⟨_, rfl⟩
      have DC := Lib.hid (DCL.out W y.path HN.out.1 HBWg.out)
      rw [hd] at DC
      have HD := Lib.hid hd
      clear hd
      simp only [List.take_succ_cons, List.take_zero, List.drop_succ_cons, List.drop_zero]
      refine wpStill_loadG (by rfl) tJob (.tmp 2) rfl w.heap.size 0 rfl (jobL c) _ HQ1.out Tryz.underlying38 rfl (by kernel_rfl) ?_
      try simp only [Act.put, List.setIfInBounds_toArray, List.set_cons_zero, List.set_cons_succ]
      iterate 6 still_step
      refine wpStill_nil ?_
      go_wp2_with fail
      refine DC.out.mono ?_
      rintro e w5 ⟨rfl, hb5⟩
      have HL5 := Lib.hid (HLW.out.later hb5)
      have HB5 : Hid (Below g w3 w5) := HBWg.out.trans (hb5.mono (by have := HBW.out.size; omega))
      have zb5 : wr.heap.size ≤ w5.heap.size := Nat.le_trans HBW.out.size hb5.size
      clear hb5 DC HLW HBWg HBW HL HQ1 q0 e0 e1
      cases d with
      | true =>
        have HT := Lib.hid (HFT.out.1 (HD.out))
        clear HFT
        as_aux_lemma =>
        go_upto_region 7 with fail
        have HDR : Hid (Below w5.heap.size w5 w5.drew) := (Below.refl _ _).drew
        have HL6 := Lib.hid (HL5.out.later HDR.out)
        have HBq6 : Hid (Below g w3 w5.drew) := HB5.out.trans (HDR.out.mono (by have := (Array.getElem?_eq_some_iff.1 HL5.out.blk).1; omega))
        have zd : w7.heap.size ≤ w5.drew.heap.size := Nat.le_trans zbr (Nat.le_trans zb5 HDR.out.size)
        have HS6 : Hid (∀ W, W.cell? ⟨g, 0, none⟩ = some u → Below g w3 W → W.cell? ⟨g, 0, none⟩ = some u ∧ W.cell? ⟨w.heap.size + 1, 0, none⟩ = some (.slice (some ⟨bl, off, none⟩) v.files.length lc0) ∧ W.cell? ⟨bl, off + i * 2, none⟩ = some (.string y.path) ∧ W.cell? ⟨bl, off + i * 2 + 1, none⟩ = some (.int .u64 (y.dig : Nat))) := fun W h1 h2 => by
          have q0 := HC0.out W h2
          have e0 := HEL.out W h2
          exact ⟨h1, q0.1, e0⟩
        refine wp_region_Z (S := fun W' : World => W'.cell? ⟨g, 0, none⟩ = some u ∧ W'.cell? ⟨w.heap.size + 1, 0, none⟩ = some (.slice (some ⟨bl, off, none⟩) v.files.length lc0) ∧ W'.cell? ⟨bl, off + i * 2, none⟩ = some (.string y.path) ∧ W'.cell? ⟨bl, off + i * 2 + 1, none⟩ = some (.int .u64 (y.dig : Nat))) 10 (by kernel_rfl) (HS6.out _ (HL6.out.cell (show 0 < 9 by decide)) HBq6.out) (fun hHeld => ?_)
        obtain ⟨wq6, hw6⟩ : ∃ W, w5.drew = W := ⟨_, rfl⟩
        rw [hw6] at HL6 HBq6 hHeld zd
        rw [hw6]
        clear hw6 HDR HL5 HB5
        refine ztk 0 ?_
        try simp only [Act.put, List.setIfInBounds_toArray, List.set_cons_zero, List.set_cons_succ]
        refine ztk 1 ?_
        try simp only [Act.put, List.setIfInBounds_toArray, List.set_cons_zero, List.set_cons_succ]
        refine ztk 2 ?_
        try simp only [Act.put, List.setIfInBounds_toArray, List.set_cons_zero, List.set_cons_succ]
        refine ztk 3 ?_
        try simp only [Act.put, List.setIfInBounds_toArray, List.set_cons_zero, List.set_cons_succ]
        refine ztk 4 ?_
        try simp only [Act.put, List.setIfInBounds_toArray, List.set_cons_zero, List.set_cons_succ]
        refine ztk 5 ?_
        try simp only [Act.put, List.setIfInBounds_toArray, List.set_cons_zero, List.set_cons_succ]
        refine ztk 6 ?_
        try simp only [Act.put, List.setIfInBounds_toArray, List.set_cons_zero, List.set_cons_succ]
        refine wpAnyZ_oneL (i := 7) (by kernel_rfl) rfl (fun K hK => ?_)
        rw [if_pos (by rfl)]
        refine wp_build1 39 tFile (.tmp 34) rfl #[.string y.path, .int .u64 (y.dig : Nat)] iK0 _ Tryz.underlying39 HI0.out hz0 2 hn0 (by decide) (by decide) rfl rfl ?_
        obtain ⟨wq7, hw7⟩ : ∃ W, wq6.alloc (.cells #[.string y.path, .int .u64 (y.dig : Nat)] tFile) = W := ⟨_, rfl⟩
        rw [hw7]
        obtain ⟨hk7, hb7, hz7⟩ := alloc_here hw7
        have HL7 := Lib.hid (HL6.out.later hb7)
        have HBq7 : Hid (Below g w3 wq7) := HBq6.out.trans (hb7.mono (by have := (Array.getElem?_eq_some_iff.1 HL6.out.blk).1; omega))
        clear hw7
        refine hK.out _ _ (fun _ => HS6.out _ (HL7.out.cell (show 0 < 9 by decide)) HBq7.out) (fun hHeld => ?_)
        replace hHeld := hHeld (by decide)
        clear hK K
        try simp only [Act.put, List.setIfInBounds_toArray, List.set_cons_zero, List.set_cons_succ]
        refine wpAnyZ_oneL (i := 8) (by kernel_rfl) rfl (fun K hK => ?_)
        rw [if_pos (by rfl)]
        refine wp_own_push (E := EFile) (.tmp 29) (.tmp 35) 39 rfl w7.heap.size tFile iK0 _ 24 Tryz.underlying39 HI0.out hz0 hn0 hy0 rfl _ u rfl HL7.out.own y [.string y.path, .int .u64 (y.dig : Nat)] rfl wq6.heap.size (0, 0) hk7 rfl (by unfold maxLen; rw [List.nil_append]; omega) (by rw [List.nil_append]; omega) (by omega) ?_
        intro v8 wq8 hown hgrow hpu
        have hk8 := HL7.out.blkPush zg7 hgrow
        have HBq8 : Below g w3 wq8 := HBq7.out.trans (below_grown hgrow (by have := (Array.getElem?_eq_some_iff.1 HL7.out.blk).1; omega) (fun q e => by have := (HL7.out.own.low q e).1; have := zg7; omega))
        have c8 : wq8.cell? ⟨g, 0, none⟩ = some u := cell_of_blk hk8 0
        have f8 := free_of_blk hk8 0
        have HWR := Lib.hid (wrote_setCell hk8 0 v8)
        have HP := Lib.hid (HL7.out.push zg7 (fun _ h => h.elim) hown hgrow hpu HWR.out)
        obtain ⟨g8, p8, hv8⟩ := hpu.form
        generalize ([] ++ (v.files.take i).filter (fun f : FileM => declF j.inputs f.path)).length + 1 = n8 at hv8
        subst hv8
        clear hown hgrow hpu hk8 hk7 hb7 hz7
        refine hK.out _ _ (fun _ => HS6.out _ c8 HBq8) (fun hHeld => ?_)
        replace hHeld := hHeld (by decide)
        clear hK K
        try simp only [Act.put, List.setIfInBounds_toArray, List.set_cons_zero, List.set_cons_succ]
        refine ztk 9 ?_
        try simp only [Act.put, List.setIfInBounds_toArray, List.set_cons_zero, List.set_cons_succ]
        refine wpAnyZ_oneL (i := 10) (by kernel_rfl) rfl (fun K hK => ?_)
        go_simp
        refine hK.out _ _ (fun h => absurd h (by decide)) (fun _ => ?_)
        clear hK K
        try simp only [Act.put]
        refine wpAnyZ_done (by kernel_rfl) ?_ _
        clear hHeld c8 f8
        as_aux_lemma =>
        go_wp2_with fail
        go_roundg (v.files.length - (i + 1))
        case measure => omega
        case rel => exact ⟨i + 1, _, by go_num, by omega, rfl, by rw [HT.out]; exact HP.out⟩
      | false =>
        have HT := Lib.hid (HFT.out.2 (HD.out))
        clear HFT
        as_aux_lemma =>
        go_wp2_with fail
        go_roundg (v.files.length - (i + 1))
        case measure => omega
        case rel => exact ⟨i + 1, u, by go_num, by omega, rfl, by rw [HT.out]; exact HL5.out⟩
    · have hii : ¬ (i : Int) < (v.files.length : Int) := by omega
      have he : i = v.files.length := by omega
      replace HL : Hid (Lp EFile tFile g 0 #[.slice none 0 0, .slice none 0 0, .slice none 0 0, c 42, c 43, c 44, c 45, c 46, c 47] w7.heap.size noB w7 (.slice none 0 0) ([] ++ v.files.filter (fun f : FileM => declF j.inputs f.path)) u wr) := by unfold Hid; have := HL.out; rwa [he, List.take_length] at this
      clear he hi
      obtain ⟨w8, rfl⟩ : ∃ x, x = wr := ⟨_, rfl⟩
      obtain ⟨x0, rfl⟩ : ∃ x, x = u := ⟨_, rfl⟩
      have HB8 := Lib.hid HBg.out
      have HK8 : Hid (w8.heap[g]? = some (.cells #[x0, .slice none 0 0, .slice none 0 0, c 42, c 43, c 44, c 45, c 46, c 47] tView (0, 0))) := HL.out.blk
      have zg8 := zgr
      have R0 : Hid (EFile.Row (fun b => b < w.heap.size ∨ g < b) w8 (v.files.filter (fun f : FileM => declF j.inputs f.path)) x0) := by
        have h := HL.out.own.rowO
        rw [List.nil_append] at h
        exact h.mono fun b hb => hb.elim (fun h => h.elim) (fun e => .inr (by have := (HL.out.own.low b e).1; omega))
      clear HL HBg zgr zbr hii
      have q1 := HC1.out _ HB8.out
      go_wp2_with fail
      clear q1
      go_loopg [7] v.arts.length (LpRel EOut tOut g 1 #[x0, .slice none 0 0, .slice none 0 0, c 42, c 43, c 44, c 45, c 46, c 47] w8.heap.size noB w8 (.slice none 0 0) [] v.arts (fun o : OutM => j.uses.contains o.name))
      case atStart => exact ⟨0, (.slice none 0 0), rfl, Nat.zero_le _, rfl, ⟨HK8.out, ElemK.Own.nil, Kpt.refl _ _ _, fun q e => by cases e⟩⟩
      case round =>
        obtain ⟨i, u, rfl, hi, rfl, hlp⟩ := hrel
        have HL := Lib.hid hlp
        have HBg : Hid (Below g w3 wr) := HB8.out.trans (hlp.kpt.below (Nat.le_of_lt zg8) (fun q e => by cases e))
        have zgr : g < wr.heap.size := (Array.getElem?_eq_some_iff.1 hlp.blk).1
        have zbr : w8.heap.size ≤ wr.heap.size := hlp.kpt.size
        clear hlp
        have q0 := HC1.out wr HBg.out
        by_cases hlt : i < v.arts.length
        · obtain ⟨bl, off, cs0, hlo, hBb, hbl0, hc, hR⟩ := HRW1.out.at hlt
          have hcs : cs0 = [.string v.arts[i].name, .int .u64 (v.arts[i].dig : Nat), .int .i64 v.arts[i].size] := hR
          subst hcs hlo
          have HEL : Hid (∀ W, Below g w3 W → W.cell? ⟨bl, off + i * 3, none⟩ = some (.string v.arts[i].name) ∧ W.cell? ⟨bl, off + i * 3 + 1, none⟩ = some (.int .u64 (v.arts[i].dig : Nat)) ∧ W.cell? ⟨bl, off + i * 3 + 2, none⟩ = some (.int .i64 v.arts[i].size)) := fun W hb => by
            have k : ∀ (t : Nat) x, [Value.string v.arts[i].name, .int .u64 (v.arts[i].dig : Nat), .int .i64 v.arts[i].size][t]? = some x → W.cell? ⟨bl, off + i * 3 + t, none⟩ = some x := fun t x hx => (hb.cell (p := ⟨bl, off + i * 3 + t, none⟩) (show bl < g by omega)).trans (hc t x hx)
            exact ⟨k 0 _ rfl, k 1 _ rfl, k 2 _ rfl⟩
          have hii : (i : Int) < (v.arts.length : Int) := by omega
          have HFT := Lib.hid (filt_step (fun o : OutM => j.uses.contains o.name) [] v.arts hlt)
          have zfl := filt_len (fun o : OutM => j.uses.contains o.name) v.arts i
          have HN := Lib.hid (HAN.out _ (List.getElem_mem hlt))
          generalize v.arts[i] = y at *
          clear hc hR
          go_upto_region 11 with fail
          refine wp_region_tailW 8 (by kernel_rfl) (by kernel_rfl) (fun W hW => ?_)
          have HBW : Hid (Below wr.heap.size wr W) := by unfold Hid; rw [hW]; exact (Below.refl _ _).drew
          have HBWg : Hid (Below g w3 W) := HBg.out.trans (HBW.out.mono (Nat.le_of_lt zgr))
          have HLW := Lib.hid (HL.out.later HBW.out)
          clear hW q0
          obtain ⟨q0, q1⟩ := HC1.out W HBWg.out
          obtain ⟨e0, e1, e2⟩ := HEL.out W HBWg.out
          obtain ⟨d, hd⟩ : ∃ d, j.uses.contains y.name = d := ⟨_, rfl⟩
          have DC := Lib.hid (HAS1.out W y.name HBWg.out)
          rw [hd] at DC
          have HD := Lib.hid hd
          clear hd
          simp only [List.take_succ_cons, List.take_zero, List.drop_succ_cons, List.drop_zero]
          iterate 8 still_step
          refine wpStill_nil ?_
          go_wp2_with fail
          refine DC.out.mono ?_
          rintro e w5 ⟨rfl, hw5⟩
          have hb5 : Below W.heap.size W w5 := by rw [hw5]; exact Below.refl _ _
          clear hw5
          have HL5 := Lib.hid (HLW.out.later hb5)
          have HB5 : Hid (Below g w3 w5) := HBWg.out.trans (hb5.mono (by have := HBW.out.size; omega))
          have zb5 : wr.heap.size ≤ w5.heap.size := Nat.le_trans HBW.out.size hb5.size
          clear hb5 DC HLW HBWg HBW HL q0 q1 e0 e1 e2
          cases d with
          | true =>
            have HT := Lib.hid (HFT.out.1 (HD.out))
            clear HFT
            as_aux_lemma =>
            go_upto_region 12 with fail
            have HDR : Hid (Below w5.heap.size w5 w5.drew) := (Below.refl _ _).drew
            have HL6 := Lib.hid (HL5.out.later HDR.out)
            have HBq6 : Hid (Below g w3 w5.drew) := HB5.out.trans (HDR.out.mono (by have := (Array.getElem?_eq_some_iff.1 HL5.out.blk).1; omega))
            have zd : w8.heap.size ≤ w5.drew.heap.size := Nat.le_trans zbr (Nat.le_trans zb5 HDR.out.size)
            have HS6 : Hid (∀ W, W.cell? ⟨g, 1, none⟩ = some u → Below g w3 W → W.cell? ⟨g, 1, none⟩ = some u ∧ W.cell? ⟨w.heap.size + 1, 1, none⟩ = some (.slice (some ⟨bl, off, none⟩) v.arts.length lc1) ∧ W.cell? ⟨bl, off + i * 3, none⟩ = some (.string y.name) ∧ W.cell? ⟨bl, off + i * 3 + 1, none⟩ = some (.int .u64 (y.dig : Nat)) ∧ W.cell? ⟨bl, off + i * 3 + 2, none⟩ = some (.int .i64 y.size)) := fun W h1 h2 => by
              have q0 := HC1.out W h2
              have e0 := HEL.out W h2
              exact ⟨h1, q0.1, e0⟩
            refine wp_region_Z (S := fun W' : World => W'.cell? ⟨g, 1, none⟩ = some u ∧ W'.cell? ⟨w.heap.size + 1, 1, none⟩ = some (.slice (some ⟨bl, off, none⟩) v.arts.length lc1) ∧ W'.cell? ⟨bl, off + i * 3, none⟩ = some (.string y.name) ∧ W'.cell? ⟨bl, off + i * 3 + 1, none⟩ = some (.int .u64 (y.dig : Nat)) ∧ W'.cell? ⟨bl, off + i * 3 + 2, none⟩ = some (.int .i64 y.size)) 10 (by kernel_rfl) (HS6.out _ (HL6.out.cell (show 1 < 9 by decide)) HBq6.out) (fun hHeld => ?_)
            obtain ⟨wq6, hw6⟩ : ∃ W, w5.drew = W := ⟨_, rfl⟩
            rw [hw6] at HL6 HBq6 hHeld zd
            rw [hw6]
            clear hw6 HDR HL5 HB5
            refine ztk 0 ?_
            try simp only [Act.put, List.setIfInBounds_toArray, List.set_cons_zero, List.set_cons_succ]
            refine ztk 1 ?_
            try simp only [Act.put, List.setIfInBounds_toArray, List.set_cons_zero, List.set_cons_succ]
            refine ztk 2 ?_
            try simp only [Act.put, List.setIfInBounds_toArray, List.set_cons_zero, List.set_cons_succ]
            refine ztk 3 ?_
            try simp only [Act.put, List.setIfInBounds_toArray, List.set_cons_zero, List.set_cons_succ]
            refine ztk 4 ?_
            try simp only [Act.put, List.setIfInBounds_toArray, List.set_cons_zero, List.set_cons_succ]
            refine ztk 5 ?_
            try simp only [Act.put, List.setIfInBounds_toArray, List.set_cons_zero, List.set_cons_succ]
            refine ztk 6 ?_
            try simp only [Act.put, List.setIfInBounds_toArray, List.set_cons_zero, List.set_cons_succ]
            refine wpAnyZ_oneL (i := 7) (by kernel_rfl) rfl (fun K hK => ?_)
            rw [if_pos (by rfl)]
            refine wp_build1 40 tOut (.tmp 60) rfl #[.string y.name, .int .u64 (y.dig : Nat), .int .i64 y.size] iK1 _ Tryz.underlying40 HI1.out hz1 3 hn1 (by decide) (by decide) rfl rfl ?_
            obtain ⟨wq7, hw7⟩ : ∃ W, wq6.alloc (.cells #[.string y.name, .int .u64 (y.dig : Nat), .int .i64 y.size] tOut) = W := ⟨_, rfl⟩
            rw [hw7]
            obtain ⟨hk7, hb7, hz7⟩ := alloc_here hw7
            have HL7 := Lib.hid (HL6.out.later hb7)
            have HBq7 : Hid (Below g w3 wq7) := HBq6.out.trans (hb7.mono (by have := (Array.getElem?_eq_some_iff.1 HL6.out.blk).1; omega))
            clear hw7
            refine hK.out _ _ (fun _ => HS6.out _ (HL7.out.cell (show 1 < 9 by decide)) HBq7.out) (fun hHeld => ?_)
            replace hHeld := hHeld (by decide)
            clear hK K
            try simp only [Act.put, List.setIfInBounds_toArray, List.set_cons_zero, List.set_cons_succ]
            refine wpAnyZ_oneL (i := 8) (by kernel_rfl) rfl (fun K hK => ?_)
            rw [if_pos (by rfl)]
            refine wp_own_push (E := EOut) (.tmp 55) (.tmp 61) 40 rfl w8.heap.size tOut iK1 _ 32 Tryz.underlying40 HI1.out hz1 hn1 hy1 rfl _ u rfl HL7.out.own y [.string y.name, .int .u64 (y.dig : Nat), .int .i64 y.size] rfl wq6.heap.size (0, 0) hk7 rfl (by unfold maxLen; rw [List.nil_append]; omega) (by rw [List.nil_append]; omega) (by omega) ?_
            intro v8 wq8 hown hgrow hpu
            have hk8 := HL7.out.blkPush zg8 hgrow
            have HBq8 : Below g w3 wq8 := HBq7.out.trans (below_grown hgrow (by have := (Array.getElem?_eq_some_iff.1 HL7.out.blk).1; omega) (fun q e => by have := (HL7.out.own.low q e).1; have := zg8; omega))
            have c8 : wq8.cell? ⟨g, 1, none⟩ = some u := cell_of_blk hk8 1
            have f8 := free_of_blk hk8 1
            have HWR := Lib.hid (wrote_setCell hk8 1 v8)
            have HP := Lib.hid (HL7.out.push zg8 (fun _ h => h.elim) hown hgrow hpu HWR.out)
            obtain ⟨g8, p8, hv8⟩ := hpu.form
            generalize ([] ++ (v.arts.take i).filter (fun o : OutM => j.uses.contains o.name)).length + 1 = n8 at hv8
            subst hv8
            clear hown hgrow hpu hk8 hk7 hb7 hz7
            refine hK.out _ _ (fun _ => HS6.out _ c8 HBq8) (fun hHeld => ?_)
            replace hHeld := hHeld (by decide)
            clear hK K
            try simp only [Act.put, List.setIfInBounds_toArray, List.set_cons_zero, List.set_cons_succ]
            refine ztk 9 ?_
            try simp only [Act.put, List.setIfInBounds_toArray, List.set_cons_zero, List.set_cons_succ]
            refine wpAnyZ_oneL (i := 10) (by kernel_rfl) rfl (fun K hK => ?_)
            go_simp
            refine hK.out _ _ (fun h => absurd h (by decide)) (fun _ => ?_)
            clear hK K
            try simp only [Act.put]
            refine wpAnyZ_done (by kernel_rfl) ?_ _
            clear hHeld c8 f8
            as_aux_lemma =>
            go_wp2_with fail
            go_roundg (v.arts.length - (i + 1))
            case measure => omega
            case rel => exact ⟨i + 1, _, by go_num, by omega, rfl, by rw [HT.out]; exact HP.out⟩
          | false =>
            have HT := Lib.hid (HFT.out.2 (HD.out))
            clear HFT
            as_aux_lemma =>
            go_wp2_with fail
            go_roundg (v.arts.length - (i + 1))
            case measure => omega
            case rel => exact ⟨i + 1, u, by go_num, by omega, rfl, by rw [HT.out]; exact HL5.out⟩
        · have hii : ¬ (i : Int) < (v.arts.length : Int) := by omega
          have he : i = v.arts.length := by omega
          replace HL : Hid (Lp EOut tOut g 1 #[x0, .slice none 0 0, .slice none 0 0, c 42, c 43, c 44, c 45, c 46, c 47] w8.heap.size noB w8 (.slice none 0 0) ([] ++ v.arts.filter (fun o : OutM => j.uses.contains o.name)) u wr) := by unfold Hid; have := HL.out; rwa [he, List.take_length] at this
          clear he hi
          obtain ⟨w9, rfl⟩ : ∃ x, x = wr := ⟨_, rfl⟩
          obtain ⟨x1, rfl⟩ : ∃ x, x = u := ⟨_, rfl⟩
          have HB9 := Lib.hid HBg.out
          have HK9 : Hid (w9.heap[g]? = some (.cells #[x0, x1, .slice none 0 0, c 42, c 43, c 44, c 45, c 46, c 47] tView (0, 0))) := HL.out.blk
          have zg9 := zgr
          have R1 : Hid (EOut.Row (fun b => b < w.heap.size ∨ g < b) w9 (v.arts.filter (fun o : OutM => j.uses.contains o.name)) x1) := by
            have h := HL.out.own.rowO
            rw [List.nil_append] at h
            exact h.mono fun b hb => hb.elim (fun h => h.elim) (fun e => .inr (by have := (HL.out.own.low b e).1; omega))
          replace R0 := Lib.hid (R0.out.keep HL.out.kpt.size fun b hb hl => HL.out.kpt.block b hl (by omega) (fun e => by cases e))
          clear HL HBg zgr zbr hii
          have q2 := HC2.out _ HB9.out
          go_wp2_with fail
          clear q2
          go_loopg [8] v.secs.length (LpRel ESec tSec g 2 #[x0, x1, .slice none 0 0, c 42, c 43, c 44, c 45, c 46, c 47] w9.heap.size (fun b => b < w.heap.size) w9 (.slice none 0 0) [] v.secs (fun s : SecM => j.secrets.contains s.name))
          case atStart => exact ⟨0, (.slice none 0 0), rfl, Nat.zero_le _, rfl, ⟨HK9.out, ElemK.Own.nil, Kpt.refl _ _ _, fun q e => by cases e⟩⟩
          case round =>
            obtain ⟨i, u, rfl, hi, rfl, hlp⟩ := hrel
            have HL := Lib.hid hlp
            have HBg : Hid (Below g w3 wr) := HB9.out.trans (hlp.kpt.below (Nat.le_of_lt zg9) (fun q e => by cases e))
            have zgr : g < wr.heap.size := (Array.getElem?_eq_some_iff.1 hlp.blk).1
            have zbr : w9.heap.size ≤ wr.heap.size := hlp.kpt.size
            clear hlp
            have q0 := HC2.out wr HBg.out
            by_cases hlt : i < v.secs.length
            · obtain ⟨bl, off, cs0, hlo, hBb, hbl0, hc, hR⟩ := HRW2.out.at hlt
              obtain ⟨rv, ev, hcs, r1, r2⟩ := hR
              obtain ⟨ra, rc, rfl⟩ := r1.form
              obtain ⟨ea, ec, rfl⟩ := r2.form
              subst hcs hlo
              have HEL : Hid (∀ W, Below g w3 W → W.cell? ⟨bl, off + i * 5, none⟩ = some (.string v.secs[i].name) ∧ W.cell? ⟨bl, off + i * 5 + 1, none⟩ = some (.string v.secs[i].text) ∧ W.cell? ⟨bl, off + i * 5 + 2, none⟩ = some (.int .i64 v.secs[i].level) ∧ W.cell? ⟨bl, off + i * 5 + 3, none⟩ = some (.slice ra v.secs[i].refs.length rc) ∧ W.cell? ⟨bl, off + i * 5 + 4, none⟩ = some (.slice ea v.secs[i].envs.length ec)) := fun W hb => by
                have k : ∀ (t : Nat) x, [Value.string v.secs[i].name, .string v.secs[i].text, .int .i64 v.secs[i].level, .slice ra v.secs[i].refs.length rc, .slice ea v.secs[i].envs.length ec][t]? = some x → W.cell? ⟨bl, off + i * 5 + t, none⟩ = some x := fun t x hx => (hb.cell (p := ⟨bl, off + i * 5 + t, none⟩) (show bl < g by omega)).trans (hc t x hx)
                exact ⟨k 0 _ rfl, k 1 _ rfl, k 2 _ rfl, k 3 _ rfl, k 4 _ rfl⟩
              have hii : (i : Int) < (v.secs.length : Int) := by omega
              have HFT := Lib.hid (filt_step (fun s : SecM => j.secrets.contains s.name) [] v.secs hlt)
              have zfl := filt_len (fun s : SecM => j.secrets.contains s.name) v.secs i
              have HN := Lib.hid (HSN.out _ (List.getElem_mem hlt))
              have HSR := Lib.hid r1
              have HSE := Lib.hid r2
              generalize v.secs[i] = y at *
              clear hc r1 r2
              go_upto_region 16 with fail
              refine wp_region_tailW 8 (by kernel_rfl) (by kernel_rfl) (fun W hW => ?_)
              have HBW : Hid (Below wr.heap.size wr W) := by unfold Hid; rw [hW]; exact (Below.refl _ _).drew
              have HBWg : Hid (Below g w3 W) := HBg.out.trans (HBW.out.mono (Nat.le_of_lt zgr))
              have HLW := Lib.hid (HL.out.later HBW.out)
              clear hW q0
              obtain ⟨q0, q1⟩ := HC2.out W HBWg.out
              obtain ⟨e0, e1, e2, e3, e4⟩ := HEL.out W HBWg.out
              obtain ⟨d, hd⟩ : ∃ d, j.secrets.contains y.name = d := ⟨_, rfl⟩
              have DC := Lib.hid (HAS2.out W y.name HBWg.out)
              rw [hd] at DC
              have HD := Lib.hid hd
              clear hd
              simp only [List.take_succ_cons, List.take_zero, List.drop_succ_cons, List.drop_zero]
              iterate 8 still_step
              refine wpStill_nil ?_
              go_wp2_with fail
              refine DC.out.mono ?_
              rintro e w5 ⟨rfl, hw5⟩
              have hb5 : Below W.heap.size W w5 := by rw [hw5]; exact Below.refl _ _
              clear hw5
              have HL5 := Lib.hid (HLW.out.later hb5)
              have HB5 : Hid (Below g w3 w5) := HBWg.out.trans (hb5.mono (by have := HBW.out.size; omega))
              have zb5 : wr.heap.size ≤ w5.heap.size := Nat.le_trans HBW.out.size hb5.size
              clear hb5 DC HLW HBWg HBW HL q0 q1 e0 e1 e2 e3 e4
              cases d with
              | true =>
                have HT := Lib.hid (HFT.out.1 (HD.out))
                clear HFT
                as_aux_lemma =>
                go_upto_region 17 with fail
                have HDR : Hid (Below w5.heap.size w5 w5.drew) := (Below.refl _ _).drew
                have HL6 := Lib.hid (HL5.out.later HDR.out)
                have HBq6 : Hid (Below g w3 w5.drew) := HB5.out.trans (HDR.out.mono (by have := (Array.getElem?_eq_some_iff.1 HL5.out.blk).1; omega))
                have zd : w9.heap.size ≤ w5.drew.heap.size := Nat.le_trans zbr (Nat.le_trans zb5 HDR.out.size)
                have HS6 : Hid (∀ W, W.cell? ⟨g, 2, none⟩ = some u → Below g w3 W → W.cell? ⟨g, 2, none⟩ = some u ∧ W.cell? ⟨w.heap.size + 1, 2, none⟩ = some (.slice (some ⟨bl, off, none⟩) v.secs.length lc2) ∧ W.cell? ⟨bl, off + i * 5, none⟩ = some (.string y.name) ∧ W.cell? ⟨bl, off + i * 5 + 1, none⟩ = some (.string y.text) ∧ W.cell? ⟨bl, off + i * 5 + 2, none⟩ = some (.int .i64 y.level) ∧ W.cell? ⟨bl, off + i * 5 + 3, none⟩ = some (.slice ra y.refs.length rc) ∧ W.cell? ⟨bl, off + i * 5 + 4, none⟩ = some (.slice ea y.envs.length ec)) := fun W h1 h2 => by
                  have q0 := HC2.out W h2
                  have e0 := HEL.out W h2
                  exact ⟨h1, q0.1, e0⟩
                refine wp_region_Z (S := fun W' : World => W'.cell? ⟨g, 2, none⟩ = some u ∧ W'.cell? ⟨w.heap.size + 1, 2, none⟩ = some (.slice (some ⟨bl, off, none⟩) v.secs.length lc2) ∧ W'.cell? ⟨bl, off + i * 5, none⟩ = some (.string y.name) ∧ W'.cell? ⟨bl, off + i * 5 + 1, none⟩ = some (.string y.text) ∧ W'.cell? ⟨bl, off + i * 5 + 2, none⟩ = some (.int .i64 y.level) ∧ W'.cell? ⟨bl, off + i * 5 + 3, none⟩ = some (.slice ra y.refs.length rc) ∧ W'.cell? ⟨bl, off + i * 5 + 4, none⟩ = some (.slice ea y.envs.length ec)) 10 (by kernel_rfl) (HS6.out _ (HL6.out.cell (show 2 < 9 by decide)) HBq6.out) (fun hHeld => ?_)
                obtain ⟨wq6, hw6⟩ : ∃ W, w5.drew = W := ⟨_, rfl⟩
                rw [hw6] at HL6 HBq6 hHeld zd
                rw [hw6]
                clear hw6 HDR HL5 HB5
                refine ztk 0 ?_
                try simp only [Act.put, List.setIfInBounds_toArray, List.set_cons_zero, List.set_cons_succ]
                refine ztk 1 ?_
                try simp only [Act.put, List.setIfInBounds_toArray, List.set_cons_zero, List.set_cons_succ]
                refine ztk 2 ?_
                try simp only [Act.put, List.setIfInBounds_toArray, List.set_cons_zero, List.set_cons_succ]
                refine ztk 3 ?_
                try simp only [Act.put, List.setIfInBounds_toArray, List.set_cons_zero, List.set_cons_succ]
                refine ztk 4 ?_
                try simp only [Act.put, List.setIfInBounds_toArray, List.set_cons_zero, List.set_cons_succ]
                refine ztk 5 ?_
                try simp only [Act.put, List.setIfInBounds_toArray, List.set_cons_zero, List.set_cons_succ]
                refine ztk 6 ?_
                try simp only [Act.put, List.setIfInBounds_toArray, List.set_cons_zero, List.set_cons_succ]
                refine wpAnyZ_oneL (i := 7) (by kernel_rfl) rfl (fun K hK => ?_)
                rw [if_pos (by rfl)]
                refine wp_build1 41 tSec (.tmp 86) rfl #[.string y.name, .string y.text, .int .i64 y.level, .slice ra y.refs.length rc, .slice ea y.envs.length ec] iK2 _ Tryz.underlying41 HI2.out hz2 5 hn2 (by decide) (by decide) rfl rfl ?_
                obtain ⟨wq7, hw7⟩ : ∃ W, wq6.alloc (.cells #[.string y.name, .string y.text, .int .i64 y.level, .slice ra y.refs.length rc, .slice ea y.envs.length ec] tSec) = W := ⟨_, rfl⟩
                rw [hw7]
                obtain ⟨hk7, hb7, hz7⟩ := alloc_here hw7
                have HL7 := Lib.hid (HL6.out.later hb7)
                have HBq7 : Hid (Below g w3 wq7) := HBq6.out.trans (hb7.mono (by have := (Array.getElem?_eq_some_iff.1 HL6.out.blk).1; omega))
                clear hw7
                refine hK.out _ _ (fun _ => HS6.out _ (HL7.out.cell (show 2 < 9 by decide)) HBq7.out) (fun hHeld => ?_)
                replace hHeld := hHeld (by decide)
                clear hK K
                try simp only [Act.put, List.setIfInBounds_toArray, List.set_cons_zero, List.set_cons_succ]
                refine wpAnyZ_oneL (i := 8) (by kernel_rfl) rfl (fun K hK => ?_)
                rw [if_pos (by rfl)]
                refine wp_own_push (E := ESec) (.tmp 81) (.tmp 87) 41 rfl w9.heap.size tSec iK2 _ 88 Tryz.underlying41 HI2.out hz2 hn2 hy2 rfl _ u rfl HL7.out.own y [.string y.name, .string y.text, .int .i64 y.level, .slice ra y.refs.length rc, .slice ea y.envs.length ec] ⟨_, _, rfl, (HSR.out.keep HBq7.out.size (fun b h _ => HBq7.out.block b (by omega))).mono (fun b h => ⟨h, fun e => by have := (HL7.out.own.low b e).1; omega⟩), (HSE.out.keep HBq7.out.size (fun b h _ => HBq7.out.block b (by omega))).mono (fun b h => ⟨h, fun e => by have := (HL7.out.own.low b e).1; omega⟩)⟩ wq6.heap.size (0, 0) hk7 rfl (by unfold maxLen; rw [List.nil_append]; omega) (by rw [List.nil_append]; omega) (by omega) ?_
                intro v8 wq8 hown hgrow hpu
                have hk8 := HL7.out.blkPush zg9 hgrow
                have HBq8 : Below g w3 wq8 := HBq7.out.trans (below_grown hgrow (by have := (Array.getElem?_eq_some_iff.1 HL7.out.blk).1; omega) (fun q e => by have := (HL7.out.own.low q e).1; have := zg9; omega))
                have c8 : wq8.cell? ⟨g, 2, none⟩ = some u := cell_of_blk hk8 2
                have f8 := free_of_blk hk8 2
                have HWR := Lib.hid (wrote_setCell hk8 2 v8)
                have HP := Lib.hid (HL7.out.push zg9 (fun b h => Nat.ne_of_lt (by omega)) hown hgrow hpu HWR.out)
                obtain ⟨g8, p8, hv8⟩ := hpu.form
                generalize ([] ++ (v.secs.take i).filter (fun s : SecM => j.secrets.contains s.name)).length + 1 = n8 at hv8
                subst hv8
                clear hown hgrow hpu hk8 hk7 hb7 hz7
                refine hK.out _ _ (fun _ => HS6.out _ c8 HBq8) (fun hHeld => ?_)
                replace hHeld := hHeld (by decide)
                clear hK K
                try simp only [Act.put, List.setIfInBounds_toArray, List.set_cons_zero, List.set_cons_succ]
                refine ztk 9 ?_
                try simp only [Act.put, List.setIfInBounds_toArray, List.set_cons_zero, List.set_cons_succ]
                refine wpAnyZ_oneL (i := 10) (by kernel_rfl) rfl (fun K hK => ?_)
                go_simp
                refine hK.out _ _ (fun h => absurd h (by decide)) (fun _ => ?_)
                clear hK K
                try simp only [Act.put]
                refine wpAnyZ_done (by kernel_rfl) ?_ _
                clear hHeld c8 f8
                as_aux_lemma =>
                go_wp2_with fail
                go_roundg (v.secs.length - (i + 1))
                case measure => omega
                case rel => exact ⟨i + 1, _, by go_num, by omega, rfl, by rw [HT.out]; exact HP.out⟩
              | false =>
                have HT := Lib.hid (HFT.out.2 (HD.out))
                clear HFT
                as_aux_lemma =>
                go_wp2_with fail
                go_roundg (v.secs.length - (i + 1))
                case measure => omega
                case rel => exact ⟨i + 1, u, by go_num, by omega, rfl, by rw [HT.out]; exact HL5.out⟩
            · have hii : ¬ (i : Int) < (v.secs.length : Int) := by omega
              have he : i = v.secs.length := by omega
              replace HL : Hid (Lp ESec tSec g 2 #[x0, x1, .slice none 0 0, c 42, c 43, c 44, c 45, c 46, c 47] w9.heap.size (fun b => b < w.heap.size) w9 (.slice none 0 0) ([] ++ v.secs.filter (fun s : SecM => j.secrets.contains s.name)) u wr) := by unfold Hid; have := HL.out; rwa [he, List.take_length] at this
              clear he hi
              obtain ⟨w10, rfl⟩ : ∃ x, x = wr := ⟨_, rfl⟩
              obtain ⟨x2, rfl⟩ : ∃ x, x = u := ⟨_, rfl⟩
              have HB10 := Lib.hid HBg.out
              have HK10 : Hid (w10.heap[g]? = some (.cells #[x0, x1, x2, c 42, c 43, c 44, c 45, c 46, c 47] tView (0, 0))) := HL.out.blk
              have zg10 := zgr
              have R2 : Hid (ESec.Row (fun b => b < w.heap.size ∨ g < b) w10 (v.secs.filter (fun s : SecM => j.secrets.contains s.name)) x2) := by
                have h := HL.out.own.rowO
                rw [List.nil_append] at h
                exact h.mono fun b hb => hb.elim Or.inl (fun e => .inr (by have := (HL.out.own.low b e).1; omega))
              replace R0 := Lib.hid (R0.out.keep HL.out.kpt.size fun b hb hl => HL.out.kpt.block b hl (by omega) (fun e => by cases e))
              replace R1 := Lib.hid (R1.out.keep HL.out.kpt.size fun b hb hl => HL.out.kpt.block b hl (by omega) (fun e => by cases e))
              clear HL HBg zgr zbr hii
              have hcp3 := ElemK.Row.lecap HRW3.out
              have hcp4 := ElemK.Row.lecap HRW4.out
              obtain ⟨q3, q4, q27⟩ := HC3.out _ HB10.out
              by_cases t3 : j.ncach < v.caches.length
              · have t3i : (j.ncach : Int) < (v.caches.length : Int) := by omega
                have hcap : (j.ncach : Int) ≤ (lc3 : Int) := by omega
                have hk := HK10.out
                have c9 : w10.cell? ⟨g, 3, none⟩ = some (c 42) := cell_of_blk hk 3
                have f9 := free_of_blk hk 3
                have HWR := Lib.hid (wrote_setCell hk 3 (.slice lo3 j.ncach lc3))
                clear hk
                go_upto_region 20 with fail
                obtain ⟨w11, hw9⟩ : ∃ W, w10.setCell ⟨g, 3, none⟩ (.slice lo3 j.ncach lc3) = W := ⟨_, rfl⟩
                rw [hw9] at HWR
                rw [hw9]
                clear hw9 c9 f9
                have HK11 : Hid (w11.heap[g]? = some (.cells #[x0, x1, x2, .slice lo3 j.ncach lc3, c 43, c 44, c 45, c 46, c 47] tView (0, 0))) := HWR.out.at_
                have HB11 : Hid (Below g w3 w11) := HB10.out.trans (HWR.out.below (Nat.le_refl _))
                replace R0 := Lib.hid (R0.out.keep (Nat.le_of_eq HWR.out.size.symm) fun b hb _ => HWR.out.block b (by omega))
                replace R1 := Lib.hid (R1.out.keep (Nat.le_of_eq HWR.out.size.symm) fun b hb _ => HWR.out.block b (by omega))
                replace R2 := Lib.hid (R2.out.keep (Nat.le_of_eq HWR.out.size.symm) fun b hb _ => HWR.out.block b (by omega))
                clear HWR
                clear q3 q4 q27 t3i hcap
                have S3 : Hid (EEnt.Row (fun b => b < w.heap.size ∨ g < b) w11 (v.caches.take j.ncach) (.slice lo3 j.ncach lc3)) := ((ElemK.Row.take HRW3.out (Nat.le_of_lt t3)).keep HB11.out.size (fun b hb _ => HB11.out.block b (by omega))).mono fun b hb => .inl hb
                obtain ⟨q3, q4, q27⟩ := HC3.out _ HB11.out
                by_cases t4 : j.ncach < v.keys.length
                · have t4i : (j.ncach : Int) < (v.keys.length : Int) := by omega
                  have hcap : (j.ncach : Int) ≤ (lc4 : Int) := by omega
                  have hk := HK11.out
                  have c9 : w11.cell? ⟨g, 4, none⟩ = some (c 43) := cell_of_blk hk 4
                  have f9 := free_of_blk hk 4
                  have HWR := Lib.hid (wrote_setCell hk 4 (.slice lo4 j.ncach lc4))
                  clear hk
                  go_upto_region 22 with fail
                  obtain ⟨w20, hw9⟩ : ∃ W, w11.setCell ⟨g, 4, none⟩ (.slice lo4 j.ncach lc4) = W := ⟨_, rfl⟩
                  rw [hw9] at HWR
                  rw [hw9]
                  clear hw9 c9 f9
                  have HK20 : Hid (w20.heap[g]? = some (.cells #[x0, x1, x2, .slice lo3 j.ncach lc3, .slice lo4 j.ncach lc4, c 44, c 45, c 46, c 47] tView (0, 0))) := HWR.out.at_
                  have HB20 : Hid (Below g w3 w20) := HB11.out.trans (HWR.out.below (Nat.le_refl _))
                  replace R0 := Lib.hid (R0.out.keep (Nat.le_of_eq HWR.out.size.symm) fun b hb _ => HWR.out.block b (by omega))
                  replace R1 := Lib.hid (R1.out.keep (Nat.le_of_eq HWR.out.size.symm) fun b hb _ => HWR.out.block b (by omega))
                  replace R2 := Lib.hid (R2.out.keep (Nat.le_of_eq HWR.out.size.symm) fun b hb _ => HWR.out.block b (by omega))
                  replace S3 := Lib.hid (S3.out.keep (Nat.le_of_eq HWR.out.size.symm) fun b hb _ => HWR.out.block b (by omega))
                  clear HWR
                  clear q3 q4 q27 t4i hcap
                  have S4 : Hid (EStr.Row (fun b => b < w.heap.size ∨ g < b) w20 (v.keys.take j.ncach) (.slice lo4 j.ncach lc4)) := ((ElemK.Row.take HRW4.out (Nat.le_of_lt t4)).keep HB20.out.size (fun b hb _ => HB20.out.block b (by omega))).mono fun b hb => .inl hb
                  have HZZ := Lib.hid HK20.out
                  have HBZ := Lib.hid HB20.out
                  have HVA : Hid (VAt w20.heap.size (dV x0 x1 x2 (.slice lo3 j.ncach lc3) (.slice lo4 j.ncach lc4) (c 44) (c 45) (c 46) (c 47)) (restrictF (declF j.inputs) j v) w20) := ⟨(R0.out.lt.mono fun b hb => hb.2), (R1.out.lt.mono fun b hb => hb.2), (R2.out.lt.mono fun b hb => hb.2), (S3.out.lt.mono fun b hb => hb.2), (S4.out.lt.mono fun b hb => hb.2), ((HV3.out.tests.keep HBZ.out.size (fun b hb _ => HBZ.out.block b (by omega))).lt.mono fun b hb => hb.2), ((HV3.out.times.keep HBZ.out.size (fun b hb _ => HBZ.out.block b (by omega))).lt.mono fun b hb => hb.2), ((HV3.out.ign.keep HBZ.out.size (fun b hb _ => HBZ.out.block b (by omega))).lt.mono fun b hb => hb.2), HV3.out.att⟩
                  have HKR : Hid (w20.heap[w.heap.size + 1 + 1]? = some (.cells view0C tView (0, 0))) := (HBZ.out.block _ (by omega)).trans HK3.out
                  refine wp_region_lit ?_
                  refine wpList_load_mid rfl tView (.tmp 5) rfl g 0 rfl (viewL (dV x0 x1 x2 (.slice lo3 j.ncach lc3) (.slice lo4 j.ncach lc4) (c 44) (c 45) (c 46) (c 47))) _ (range_view HZZ.out) Tryz.underlying45 rfl (by kernel_rfl) ?_
                  try simp only [Act.put, List.setIfInBounds_toArray, List.set_cons_zero, List.set_cons_succ]
                  go_wp2_with (refine wpList_store_row rfl tView _ _ rfl (w.heap.size + 1 + 1) rfl tView _ HKR.out (.agg (viewC (dV x0 x1 x2 (.slice lo3 j.ncach lc3) (.slice lo4 j.ncach lc4) (c 44) (c 45) (c 46) (c 47)))) rfl (by kernel_rfl) rfl (view_one HVA.out) ?_)
                  intro wz hwz
                  have HZ : Hid (wz.heap[w.heap.size + 1 + 1]? = some (.cells (viewC (dV x0 x1 x2 (.slice lo3 j.ncach lc3) (.slice lo4 j.ncach lc4) (c 44) (c 45) (c 46) (c 47))) tView (0, 0))) := hwz.at_
                  have HVZ : Hid (VAt wz.heap.size (dV x0 x1 x2 (.slice lo3 j.ncach lc3) (.slice lo4 j.ncach lc4) (c 44) (c 45) (c 46) (c 47)) (restrictF (declF j.inputs) j v) wz) := ⟨((R0.out.keep (Nat.le_of_eq hwz.size.symm) (fun b hb _ => hwz.block b (by omega))).lt.mono fun b hb => hb.2), ((R1.out.keep (Nat.le_of_eq hwz.size.symm) (fun b hb _ => hwz.block b (by omega))).lt.mono fun b hb => hb.2), ((R2.out.keep (Nat.le_of_eq hwz.size.symm) (fun b hb _ => hwz.block b (by omega))).lt.mono fun b hb => hb.2), ((S3.out.keep (Nat.le_of_eq hwz.size.symm) (fun b hb _ => hwz.block b (by omega))).lt.mono fun b hb => hb.2), ((S4.out.keep (Nat.le_of_eq hwz.size.symm) (fun b hb _ => hwz.block b (by omega))).lt.mono fun b hb => hb.2), (((HV3.out.tests.keep HBZ.out.size (fun b hb _ => HBZ.out.block b (by omega))).keep (Nat.le_of_eq hwz.size.symm) (fun b hb _ => hwz.block b (by omega))).lt.mono fun b hb => hb.2), (((HV3.out.times.keep HBZ.out.size (fun b hb _ => HBZ.out.block b (by omega))).keep (Nat.le_of_eq hwz.size.symm) (fun b hb _ => hwz.block b (by omega))).lt.mono fun b hb => hb.2), (((HV3.out.ign.keep HBZ.out.size (fun b hb _ => HBZ.out.block b (by omega))).keep (Nat.le_of_eq hwz.size.symm) (fun b hb _ => hwz.block b (by omega))).lt.mono fun b hb => hb.2), HV3.out.att⟩
                  have HBW : Hid (Below w.heap.size w wz) := HB3.out.trans ((HBZ.out.mono (by omega)).trans (hwz.below (by omega)))
                  clear hwz
                  as_aux_lemma =>
                  go_wp2_with fail
                  exact bodyPost_ret (results_row1 rfl _ _ (w.heap.size + 1 + 1) tView _ (0, 0) _ rfl HZ.out Tryz.underlying45 rfl (by kernel_rfl)) rfl (by exact ⟨(dV x0 x1 x2 (.slice lo3 j.ncach lc3) (.slice lo4 j.ncach lc4) (c 44) (c 45) (c 46) (c 47)), rfl, HVZ.out, HBW.out⟩)
                · have t4i : ¬ (j.ncach : Int) < (v.keys.length : Int) := by omega
                  go_upto_region 22 with fail
                  clear q3 q4 q27 t4i
                  have S4 : Hid (EStr.Row (fun b => b < w.heap.size ∨ g < b) w11 (v.keys.take j.ncach) (c 43)) := by
                    unfold Hid
                    rw [List.take_of_length_le (by omega)]
                    exact (HV3.out.keys.keep HB11.out.size (fun b hb _ => HB11.out.block b (by omega))).mono fun b hb => .inl hb
                  have HZZ := Lib.hid HK11.out
                  have HBZ := Lib.hid HB11.out
                  have HVA : Hid (VAt w11.heap.size (dV x0 x1 x2 (.slice lo3 j.ncach lc3) (c 43) (c 44) (c 45) (c 46) (c 47)) (restrictF (declF j.inputs) j v) w11) := ⟨(R0.out.lt.mono fun b hb => hb.2), (R1.out.lt.mono fun b hb => hb.2), (R2.out.lt.mono fun b hb => hb.2), (S3.out.lt.mono fun b hb => hb.2), (S4.out.lt.mono fun b hb => hb.2), ((HV3.out.tests.keep HBZ.out.size (fun b hb _ => HBZ.out.block b (by omega))).lt.mono fun b hb => hb.2), ((HV3.out.times.keep HBZ.out.size (fun b hb _ => HBZ.out.block b (by omega))).lt.mono fun b hb => hb.2), ((HV3.out.ign.keep HBZ.out.size (fun b hb _ => HBZ.out.block b (by omega))).lt.mono fun b hb => hb.2), HV3.out.att⟩
                  have HKR : Hid (w11.heap[w.heap.size + 1 + 1]? = some (.cells view0C tView (0, 0))) := (HBZ.out.block _ (by omega)).trans HK3.out
                  refine wp_region_lit ?_
                  refine wpList_load_mid rfl tView (.tmp 5) rfl g 0 rfl (viewL (dV x0 x1 x2 (.slice lo3 j.ncach lc3) (c 43) (c 44) (c 45) (c 46) (c 47))) _ (range_view HZZ.out) Tryz.underlying45 rfl (by kernel_rfl) ?_
                  try simp only [Act.put, List.setIfInBounds_toArray, List.set_cons_zero, List.set_cons_succ]
                  go_wp2_with (refine wpList_store_row rfl tView _ _ rfl (w.heap.size + 1 + 1) rfl tView _ HKR.out (.agg (viewC (dV x0 x1 x2 (.slice lo3 j.ncach lc3) (c 43) (c 44) (c 45) (c 46) (c 47)))) rfl (by kernel_rfl) rfl (view_one HVA.out) ?_)
                  intro wz hwz
                  have HZ : Hid (wz.heap[w.heap.size + 1 + 1]? = some (.cells (viewC (dV x0 x1 x2 (.slice lo3 j.ncach lc3) (c 43) (c 44) (c 45) (c 46) (c 47))) tView (0, 0))) := hwz.at_
                  have HVZ : Hid (VAt wz.heap.size (dV x0 x1 x2 (.slice lo3 j.ncach lc3) (c 43) (c 44) (c 45) (c 46) (c 47)) (restrictF (declF j.inputs) j v) wz) := ⟨((R0.out.keep (Nat.le_of_eq hwz.size.symm) (fun b hb _ => hwz.block b (by omega))).lt.mono fun b hb => hb.2), ((R1.out.keep (Nat.le_of_eq hwz.size.symm) (fun b hb _ => hwz.block b (by omega))).lt.mono fun b hb => hb.2), ((R2.out.keep (Nat.le_of_eq hwz.size.symm) (fun b hb _ => hwz.block b (by omega))).lt.mono fun b hb => hb.2), ((S3.out.keep (Nat.le_of_eq hwz.size.symm) (fun b hb _ => hwz.block b (by omega))).lt.mono fun b hb => hb.2), ((S4.out.keep (Nat.le_of_eq hwz.size.symm) (fun b hb _ => hwz.block b (by omega))).lt.mono fun b hb => hb.2), (((HV3.out.tests.keep HBZ.out.size (fun b hb _ => HBZ.out.block b (by omega))).keep (Nat.le_of_eq hwz.size.symm) (fun b hb _ => hwz.block b (by omega))).lt.mono fun b hb => hb.2), (((HV3.out.times.keep HBZ.out.size (fun b hb _ => HBZ.out.block b (by omega))).keep (Nat.le_of_eq hwz.size.symm) (fun b hb _ => hwz.block b (by omega))).lt.mono fun b hb => hb.2), (((HV3.out.ign.keep HBZ.out.size (fun b hb _ => HBZ.out.block b (by omega))).keep (Nat.le_of_eq hwz.size.symm) (fun b hb _ => hwz.block b (by omega))).lt.mono fun b hb => hb.2), HV3.out.att⟩
                  have HBW : Hid (Below w.heap.size w wz) := HB3.out.trans ((HBZ.out.mono (by omega)).trans (hwz.below (by omega)))
                  clear hwz
                  as_aux_lemma =>
                  go_wp2_with fail
                  exact bodyPost_ret (results_row1 rfl _ _ (w.heap.size + 1 + 1) tView _ (0, 0) _ rfl HZ.out Tryz.underlying45 rfl (by kernel_rfl)) rfl (by exact ⟨(dV x0 x1 x2 (.slice lo3 j.ncach lc3) (c 43) (c 44) (c 45) (c 46) (c 47)), rfl, HVZ.out, HBW.out⟩)
              · have t3i : ¬ (j.ncach : Int) < (v.caches.length : Int) := by omega
                go_upto_region 20 with fail
                clear q3 q4 q27 t3i
                have S3 : Hid (EEnt.Row (fun b => b < w.heap.size ∨ g < b) w10 (v.caches.take j.ncach) (c 42)) := by
                  unfold Hid
                  rw [List.take_of_length_le (by omega)]
                  exact (HV3.out.caches.keep HB10.out.size (fun b hb _ => HB10.out.block b (by omega))).mono fun b hb => .inl hb
                obtain ⟨q3, q4, q27⟩ := HC3.out _ HB10.out
                by_cases t4 : j.ncach < v.keys.length
                · have t4i : (j.ncach : Int) < (v.keys.length : Int) := by omega
                  have hcap : (j.ncach : Int) ≤ (lc4 : Int) := by omega
                  have hk := HK10.out
                  have c9 : w10.cell? ⟨g, 4, none⟩ = some (c 43) := cell_of_blk hk 4
                  have f9 := free_of_blk hk 4
                  have HWR := Lib.hid (wrote_setCell hk 4 (.slice lo4 j.ncach lc4))
                  clear hk
                  go_upto_region 22 with fail
                  obtain ⟨w20, hw9⟩ : ∃ W, w10.setCell ⟨g, 4, none⟩ (.slice lo4 j.ncach lc4) = W := ⟨_, rfl⟩
                  rw [hw9] at HWR
                  rw [hw9]
                  clear hw9 c9 f9
                  have HK20 : Hid (w20.heap[g]? = some (.cells #[x0, x1, x2, c 42, .slice lo4 j.ncach lc4, c 44, c 45, c 46, c 47] tView (0, 0))) := HWR.out.at_
                  have HB20 : Hid (Below g w3 w20) := HB10.out.trans (HWR.out.below (Nat.le_refl _))
                  replace R0 := Lib.hid (R0.out.keep (Nat.le_of_eq HWR.out.size.symm) fun b hb _ => HWR.out.block b (by omega))
                  replace R1 := Lib.hid (R1.out.keep (Nat.le_of_eq HWR.out.size.symm) fun b hb _ => HWR.out.block b (by omega))
                  replace R2 := Lib.hid (R2.out.keep (Nat.le_of_eq HWR.out.size.symm) fun b hb _ => HWR.out.block b (by omega))
                  replace S3 := Lib.hid (S3.out.keep (Nat.le_of_eq HWR.out.size.symm) fun b hb _ => HWR.out.block b (by omega))
                  clear HWR
                  clear q3 q4 q27 t4i hcap
                  have S4 : Hid (EStr.Row (fun b => b < w.heap.size ∨ g < b) w20 (v.keys.take j.ncach) (.slice lo4 j.ncach lc4)) := ((ElemK.Row.take HRW4.out (Nat.le_of_lt t4)).keep HB20.out.size (fun b hb _ => HB20.out.block b (by omega))).mono fun b hb => .inl hb
                  have HZZ := Lib.hid HK20.out
                  have HBZ := Lib.hid HB20.out
                  have HVA : Hid (VAt w20.heap.size (dV x0 x1 x2 (c 42) (.slice lo4 j.ncach lc4) (c 44) (c 45) (c 46) (c 47)) (restrictF (declF j.inputs) j v) w20) := ⟨(R0.out.lt.mono fun b hb => hb.2), (R1.out.lt.mono fun b hb => hb.2), (R2.out.lt.mono fun b hb => hb.2), (S3.out.lt.mono fun b hb => hb.2), (S4.out.lt.mono fun b hb => hb.2), ((HV3.out.tests.keep HBZ.out.size (fun b hb _ => HBZ.out.block b (by omega))).lt.mono fun b hb => hb.2), ((HV3.out.times.keep HBZ.out.size (fun b hb _ => HBZ.out.block b (by omega))).lt.mono fun b hb => hb.2), ((HV3.out.ign.keep HBZ.out.size (fun b hb _ => HBZ.out.block b (by omega))).lt.mono fun b hb => hb.2), HV3.out.att⟩
                  have HKR : Hid (w20.heap[w.heap.size + 1 + 1]? = some (.cells view0C tView (0, 0))) := (HBZ.out.block _ (by omega)).trans HK3.out
                  refine wp_region_lit ?_
                  refine wpList_load_mid rfl tView (.tmp 5) rfl g 0 rfl (viewL (dV x0 x1 x2 (c 42) (.slice lo4 j.ncach lc4) (c 44) (c 45) (c 46) (c 47))) _ (range_view HZZ.out) Tryz.underlying45 rfl (by kernel_rfl) ?_
                  try simp only [Act.put, List.setIfInBounds_toArray, List.set_cons_zero, List.set_cons_succ]
                  go_wp2_with (refine wpList_store_row rfl tView _ _ rfl (w.heap.size + 1 + 1) rfl tView _ HKR.out (.agg (viewC (dV x0 x1 x2 (c 42) (.slice lo4 j.ncach lc4) (c 44) (c 45) (c 46) (c 47)))) rfl (by kernel_rfl) rfl (view_one HVA.out) ?_)
                  intro wz hwz
                  have HZ : Hid (wz.heap[w.heap.size + 1 + 1]? = some (.cells (viewC (dV x0 x1 x2 (c 42) (.slice lo4 j.ncach lc4) (c 44) (c 45) (c 46) (c 47))) tView (0, 0))) := hwz.at_
                  have HVZ : Hid (VAt wz.heap.size (dV x0 x1 x2 (c 42) (.slice lo4 j.ncach lc4) (c 44) (c 45) (c 46) (c 47)) (restrictF (declF j.inputs) j v) wz) := ⟨((R0.out.keep (Nat.le_of_eq hwz.size.symm) (fun b hb _ => hwz.block b (by omega))).lt.mono fun b hb => hb.2), ((R1.out.keep (Nat.le_of_eq hwz.size.symm) (fun b hb _ => hwz.block b (by omega))).lt.mono fun b hb => hb.2), ((R2.out.keep (Nat.le_of_eq hwz.size.symm) (fun b hb _ => hwz.block b (by omega))).lt.mono fun b hb => hb.2), ((S3.out.keep (Nat.le_of_eq hwz.size.symm) (fun b hb _ => hwz.block b (by omega))).lt.mono fun b hb => hb.2), ((S4.out.keep (Nat.le_of_eq hwz.size.symm) (fun b hb _ => hwz.block b (by omega))).lt.mono fun b hb => hb.2), (((HV3.out.tests.keep HBZ.out.size (fun b hb _ => HBZ.out.block b (by omega))).keep (Nat.le_of_eq hwz.size.symm) (fun b hb _ => hwz.block b (by omega))).lt.mono fun b hb => hb.2), (((HV3.out.times.keep HBZ.out.size (fun b hb _ => HBZ.out.block b (by omega))).keep (Nat.le_of_eq hwz.size.symm) (fun b hb _ => hwz.block b (by omega))).lt.mono fun b hb => hb.2), (((HV3.out.ign.keep HBZ.out.size (fun b hb _ => HBZ.out.block b (by omega))).keep (Nat.le_of_eq hwz.size.symm) (fun b hb _ => hwz.block b (by omega))).lt.mono fun b hb => hb.2), HV3.out.att⟩
                  have HBW : Hid (Below w.heap.size w wz) := HB3.out.trans ((HBZ.out.mono (by omega)).trans (hwz.below (by omega)))
                  clear hwz
                  as_aux_lemma =>
                  go_wp2_with fail
                  exact bodyPost_ret (results_row1 rfl _ _ (w.heap.size + 1 + 1) tView _ (0, 0) _ rfl HZ.out Tryz.underlying45 rfl (by kernel_rfl)) rfl (by exact ⟨(dV x0 x1 x2 (c 42) (.slice lo4 j.ncach lc4) (c 44) (c 45) (c 46) (c 47)), rfl, HVZ.out, HBW.out⟩)
                · have t4i : ¬ (j.ncach : Int) < (v.keys.length : Int) := by omega
                  go_upto_region 22 with fail
                  clear q3 q4 q27 t4i
                  have S4 : Hid (EStr.Row (fun b => b < w.heap.size ∨ g < b) w10 (v.keys.take j.ncach) (c 43)) := by
                    unfold Hid
                    rw [List.take_of_length_le (by omega)]
                    exact (HV3.out.keys.keep HB10.out.size (fun b hb _ => HB10.out.block b (by omega))).mono fun b hb => .inl hb
                  have HZZ := Lib.hid HK10.out
                  have HBZ := Lib.hid HB10.out
                  have HVA : Hid (VAt w10.heap.size (dV x0 x1 x2 (c 42) (c 43) (c 44) (c 45) (c 46) (c 47)) (restrictF (declF j.inputs) j v) w10) := ⟨(R0.out.lt.mono fun b hb => hb.2), (R1.out.lt.mono fun b hb => hb.2), (R2.out.lt.mono fun b hb => hb.2), (S3.out.lt.mono fun b hb => hb.2), (S4.out.lt.mono fun b hb => hb.2), ((HV3.out.tests.keep HBZ.out.size (fun b hb _ => HBZ.out.block b (by omega))).lt.mono fun b hb => hb.2), ((HV3.out.times.keep HBZ.out.size (fun b hb _ => HBZ.out.block b (by omega))).lt.mono fun b hb => hb.2), ((HV3.out.ign.keep HBZ.out.size (fun b hb _ => HBZ.out.block b (by omega))).lt.mono fun b hb => hb.2), HV3.out.att⟩
                  have HKR : Hid (w10.heap[w.heap.size + 1 + 1]? = some (.cells view0C tView (0, 0))) := (HBZ.out.block _ (by omega)).trans HK3.out
                  refine wp_region_lit ?_
                  refine wpList_load_mid rfl tView (.tmp 5) rfl g 0 rfl (viewL (dV x0 x1 x2 (c 42) (c 43) (c 44) (c 45) (c 46) (c 47))) _ (range_view HZZ.out) Tryz.underlying45 rfl (by kernel_rfl) ?_
                  try simp only [Act.put, List.setIfInBounds_toArray, List.set_cons_zero, List.set_cons_succ]
                  go_wp2_with (refine wpList_store_row rfl tView _ _ rfl (w.heap.size + 1 + 1) rfl tView _ HKR.out (.agg (viewC (dV x0 x1 x2 (c 42) (c 43) (c 44) (c 45) (c 46) (c 47)))) rfl (by kernel_rfl) rfl (view_one HVA.out) ?_)
                  intro wz hwz
                  have HZ : Hid (wz.heap[w.heap.size + 1 + 1]? = some (.cells (viewC (dV x0 x1 x2 (c 42) (c 43) (c 44) (c 45) (c 46) (c 47))) tView (0, 0))) := hwz.at_
                  have HVZ : Hid (VAt wz.heap.size (dV x0 x1 x2 (c 42) (c 43) (c 44) (c 45) (c 46) (c 47)) (restrictF (declF j.inputs) j v) wz) := ⟨((R0.out.keep (Nat.le_of_eq hwz.size.symm) (fun b hb _ => hwz.block b (by omega))).lt.mono fun b hb => hb.2), ((R1.out.keep (Nat.le_of_eq hwz.size.symm) (fun b hb _ => hwz.block b (by omega))).lt.mono fun b hb => hb.2), ((R2.out.keep (Nat.le_of_eq hwz.size.symm) (fun b hb _ => hwz.block b (by omega))).lt.mono fun b hb => hb.2), ((S3.out.keep (Nat.le_of_eq hwz.size.symm) (fun b hb _ => hwz.block b (by omega))).lt.mono fun b hb => hb.2), ((S4.out.keep (Nat.le_of_eq hwz.size.symm) (fun b hb _ => hwz.block b (by omega))).lt.mono fun b hb => hb.2), (((HV3.out.tests.keep HBZ.out.size (fun b hb _ => HBZ.out.block b (by omega))).keep (Nat.le_of_eq hwz.size.symm) (fun b hb _ => hwz.block b (by omega))).lt.mono fun b hb => hb.2), (((HV3.out.times.keep HBZ.out.size (fun b hb _ => HBZ.out.block b (by omega))).keep (Nat.le_of_eq hwz.size.symm) (fun b hb _ => hwz.block b (by omega))).lt.mono fun b hb => hb.2), (((HV3.out.ign.keep HBZ.out.size (fun b hb _ => HBZ.out.block b (by omega))).keep (Nat.le_of_eq hwz.size.symm) (fun b hb _ => hwz.block b (by omega))).lt.mono fun b hb => hb.2), HV3.out.att⟩
                  have HBW : Hid (Below w.heap.size w wz) := HB3.out.trans ((HBZ.out.mono (by omega)).trans (hwz.below (by omega)))
                  clear hwz
                  as_aux_lemma =>
                  go_wp2_with fail
                  exact bodyPost_ret (results_row1 rfl _ _ (w.heap.size + 1 + 1) tView _ (0, 0) _ rfl HZ.out Tryz.underlying45 rfl (by kernel_rfl)) rfl (by exact ⟨(dV x0 x1 x2 (c 42) (c 43) (c 44) (c 45) (c 46) (c 47)), rfl, HVZ.out, HBW.out⟩)
end Go.Proofs.YtghahghbahcpfaaGreatDoor
