/- The job in memory; the walk over the execution's refused. -/
import Derived.Test.YtghahghbahcpfaaGreatDoorVs5
import Derived.Deep.MidRow
namespace Go.Proofs.YtghahghbahcpfaaGreatDoor
open Go.RowKit

structure JAt (xb : Nat) (c : Nat → Value) (j : JobM) (w : World) : Prop where
  steps : EStep.Row (fun b => b < xb) w j.steps (c 13)
  timeout : c 19 = .int .i64 j.timeout
  inputs : EStr.Row (fun b => b < xb) w j.inputs (c 24)
  uses : EStr.Row (fun b => b < xb) w j.uses (c 25)
  outputs : EStr.Row (fun b => b < xb) w j.outputs (c 26)
  caches : ∃ ao cap, c 27 = .slice ao j.ncach cap
  secrets : EStr.Row (fun b => b < xb) w j.secrets (c 28)
  child : c 38 = .bool j.child
theorem JAt.below {xb : Nat} {c : Nat → Value} {j : JobM} {w w1 : World} (h : JAt xb c j w) (hb : Below xb w w1) : JAt xb c j w1 :=
  have k : ∀ b, b < xb → b < w.heap.size → w1.heap[b]? = w.heap[b]? := fun b h1 _ => hb.block b h1
  ⟨h.steps.keep hb.size k, h.timeout, h.inputs.keep hb.size k, h.uses.keep hb.size k, h.outputs.keep hb.size k, h.caches, h.secrets.keep hb.size k, h.child⟩
/-- a job of moderate size -/
structure JB (j : JobM) : Prop where
  steps : j.steps.length ≤ 1000
  timeout : i64R j.timeout
  inputs : j.inputs.length ≤ 1000000
  inputN : ∀ x ∈ j.inputs, x.size ≤ 1000000
  uses : j.uses.length ≤ 1000000
  outputs : j.outputs.length ≤ 1000000
  caches : j.ncach ≤ 1000000
  secrets : j.secrets.length ≤ 1000000
  stepN : ∀ s ∈ j.steps, s.name.size ≤ 10000 ∧ s.text.size ≤ 100000 ∧ i64R s.op ∧ i64R s.n
abbrev jobL (c : Nat → Value) : List Value := [c 0, c 1, c 2, c 3, c 4, c 5, c 6, c 7, c 8, c 9, c 10, c 11, c 12, c 13, c 14, c 15, c 16, c 17, c 18, c 19, c 20, c 21, c 22, c 23, c 24, c 25, c 26, c 27, c 28, c 29, c 30, c 31, c 32, c 33, c 34, c 35, c 36, c 37, c 38]
theorem xst_job {xb : Nat} {c : Nat → Value} {x : StM} {w : World} (h : XSt xb c x w) : w.rangeAt xb 0 (jobL c) := fun k v hv => by
  have e : jobL c = (List.range 39).map c := rfl
  rw [e, List.getElem?_map] at hv
  by_cases hk : k < 39
  · rw [List.getElem?_range hk] at hv
    rw [Nat.zero_add, h.cell (by omega)]
    exact hv
  · rw [List.getElem?_eq_none (by simp; omega)] at hv
    cases hv
theorem wrap_cls (a b : Bool) : wrap64 (classF a 6 + classF b 7) = classF a 6 + classF b 7 := by cases a <;> cases b <;> kernel_rfl
def RefPost (j : JobM) (v : ViewM) (s : StepM) (w : World) (e : Ending) (w' : World) : Prop := e = .returned (.int .i64 (refusedF (declF j.inputs) j v s)) ∧ Below w.heap.size w w'
set_option maxRecDepth 100000 in
set_option maxHeartbeats 6400000 in
theorem refused_read (xb : Nat) (c : Nat → Value) (x : StM) (v : ViewM) (j : JobM) (nm tx : ByteArray) (n : Int) (hnm : nm.size ≤ 10000) (hJ : JB j) (hB : VB v) (w : World) (hst : XSt xb c x w) (hv : VAt xb c v w) (hj : JAt xb c j w) :
    Calls Tryz.prog 59 #[.pointer (some ⟨xb, 0, none⟩), stepV ⟨1, nm, tx, n⟩] w (RefPost j v ⟨1, nm, tx, n⟩ w) := by
  have hlt := hst.lt
  obtain ⟨w1, hw1⟩ : ∃ w1, w.alloc (.cells #[.int .i64 1, .string nm, .string tx, .int .i64 n] 80 (0, 0)) = w1 := ⟨_, rfl⟩
  have hk1 : w1.heap[w.heap.size]? = some (.cells #[.int .i64 1, .string nm, .string tx, .int .i64 n] 80 (0, 0)) := by rw [← hw1]; exact hp_new rfl
  have hb1 : Below w.heap.size w w1 := by rw [← hw1]; exact (Below.refl _ w).alloc (Nat.le_refl _) _
  have hz1 : w.heap.size < w1.heap.size := (Array.getElem?_eq_some_iff.1 hk1).1
  have s0 : w1.cell? ⟨w.heap.size, 0, none⟩ = some (.int .i64 1) := cell_of_blk hk1 0
  have s1 : w1.cell? ⟨w.heap.size, 1, none⟩ = some (.string nm) := cell_of_blk hk1 1
  have s3 : w1.cell? ⟨w.heap.size, 3, none⟩ = some (.int .i64 n) := cell_of_blk hk1 3
  have HW1 := Lib.hid hw1
  have HK1 := Lib.hid hk1
  have HST := Lib.hid (hst.grow hb1)
  have HB1 := Lib.hid hb1
  obtain ⟨io, ic, hio⟩ := hj.inputs.form
  obtain ⟨fo, fc, hff⟩ := hv.files.form
  have FA := Lib.hid (file_any nm xb v.files (c 39) _ (by have := hB.files; omega) w1 ((hst.grow hb1).cell (by decide)) (hv.below (hb1.mono (Nat.le_of_lt hlt))).files)
  have HJ := Lib.hid hJ
  have HJA := Lib.hid (hj.below (hb1.mono (Nat.le_of_lt hlt)))
  have HIO := Lib.hid hio
  have HRF : Hid (refusedF (declF j.inputs) j v ⟨1, nm, tx, n⟩ = classF (declF j.inputs nm) 6 + classF (!(declF j.inputs nm && !(v.files.find? (fun y => decide (y.path = nm))).isSome)) 7) := by
    unfold Hid refusedF
    dsimp only
    rw [if_pos rfl, show (fileF v nm).isNone = !(fileF v nm).isSome by cases fileF v nm <;> rfl]
    rfl
  clear hst hv hB hJ hj hk1 hb1 hw1 hio hff
  go_enter Tryz.func59, Tryz.ntmps59
  go_upto_region 1 with fail
  rw [HW1.out]
  clear HW1
  go_wp2_with fail
  refine FA.out.mono ?_
  rintro e w2 ⟨cs, rfl, hsome, hnone, hb⟩
  have hcs : ∃ (a : ByteArray) (b : Int), cs = [.string a, .int .u64 b] := by
    cases hq : v.files.find? (fun y => decide (y.path = nm)) with
    | none => exact ⟨_, _, hnone hq⟩
    | some f => exact ⟨_, _, hsome f hq⟩
  obtain ⟨fa, fd, rfl⟩ := hcs
  obtain ⟨t, ht⟩ : ∃ t, (v.files.find? (fun y => decide (y.path = nm))).isSome = t := ⟨_, rfl⟩
  obtain ⟨d, hd⟩ : ∃ d, declF j.inputs nm = d := ⟨_, rfl⟩
  rw [ht] at HRF ⊢
  rw [hd] at HRF
  have HB2 := Lib.hid hb
  have HD := Lib.hid hd
  clear hb hsome hnone FA ht hd
  go_wp2_with (refine wpList_store_row rfl 85 _ _ rfl w2.heap.size rfl 85 _ (hp_new rfl) (.agg #[.string fa, .int .u64 fd]) rfl (by kernel_rfl) rfl rfl ?_)
  intro w3 hw3
  have HB3 : Hid (Below w1.heap.size w1 w3) := HB2.out.trans ((((Below.refl _ w2).alloc (Nat.le_refl _) _).trans (hw3.below (Nat.le_refl _))).mono HB2.out.size)
  have HS : Hid (∀ W' : World, Below w3.heap.size w3 W' → W'.cell? ⟨w.heap.size, 1, none⟩ = some (.string nm) ∧ W'.rangeAt xb 0 (jobL c)) := fun W' hb =>
    have hb' := HB3.out.trans (hb.mono HB3.out.size)
    ⟨cell_of_blk ((hb'.block _ hz1).trans HK1.out) 1, xst_job (HST.out.grow hb')⟩
  have HDR : Hid (Below w3.heap.size w3 w3.drew) := (Below.refl _ _).drew
  have DC : Hid (∀ W, Below w3.heap.size w3 W → Calls Tryz.prog 19 #[jobA c, .string nm] W fun e w' => e = .returned (.bool d) ∧ Below W.heap.size W w') := fun W hb => by
    have hb' := HB3.out.trans (hb.mono HB3.out.size)
    have h1 := (HJA.out.below (hb'.mono (Nat.le_of_lt (Nat.lt_trans hlt hz1)))).inputs
    rw [HIO.out] at h1
    have := decl_any c j.inputs io ic nm _ (by omega) HJ.out.inputs HJ.out.inputN HIO.out W h1
    rw [HD.out] at this
    exact this
  clear hw3 s0 s1 s3
  go_upto_region 14 with fail
  refine wp_region_Z (S := fun W' : World => W'.cell? ⟨w.heap.size, 1, none⟩ = some (.string nm) ∧ W'.rangeAt xb 0 (jobL c)) 7 (by kernel_rfl) (HS.out _ HDR.out) (fun hHeld => ?_)
  refine ztk 0 ?_
  try simp only [Act.put, zA, zB, zC]
  refine ztk 1 ?_
  try simp only [Act.put, zA, zB, zC]
  refine ztk 2 ?_
  try simp only [Act.put, zA, zB, zC]
  refine wpAnyZ_takeD (i := 3) (v := .agg (jobL c).toArray) rfl (by kernel_rfl) (by kernel_rfl) (by kernel_rfl) (by kernel_rfl) (fun _ _ _ h => h) (yieldsIf_load_mid (by rfl) 38 (.tmp 44) rfl xb 0 (by rfl) (jobL c) _ (fun W h => h.2) Tryz.underlying38 rfl (by kernel_rfl)) (by assumption) ?_
  try simp only [Act.put, zA, zB, zC]
  refine ztk 4 ?_
  try simp only [Act.put, zA, zB, zC]
  refine ztk 5 ?_
  try simp only [Act.put, zA, zB, zC]
  refine wpAnyZ_oneL (i := 6) (by kernel_rfl) rfl (fun K hK => ?_)
  go_simp
  go_at_call 19
  refine (DC.out _ HDR.out).mono ?_
  rintro e w5 ⟨rfl, hb5⟩
  have HB5 := Lib.hid (HDR.out.trans (hb5.mono HDR.out.size))
  clear hb5
  refine hK.out _ _ (fun _ => HS.out _ HB5.out) (fun hHeld => ?_)
  replace hHeld := hHeld (by decide)
  clear hK K
  try simp only [Act.put, zA, zB, zC]
  refine wpAnyZ_oneL (i := 7) (by kernel_rfl) rfl (fun K hK => ?_)
  go_simp
  refine hK.out _ _ (fun h => absurd h (by decide)) (fun _ => ?_)
  clear hK K
  try simp only [Act.put, zA, zB, zC]
  refine wpAnyZ_done (by kernel_rfl) ?_ _
  clear hHeld
  have HB9 : Hid (Below w.heap.size w w5) := HB1.out.trans ((HB3.out.trans (HB5.out.mono HB3.out.size)).mono HB1.out.size)
  clear HS HDR DC HB5 HB3
  cases d <;> cases t <;>
  · go_wp2_with fail
    refine (class_any _ 6 _).mono ?_
    rintro e w6 ⟨rfl, rfl⟩
    go_wp2_with fail
    refine (refin_any _ _).mono ?_
    rintro e w7 ⟨rfl, rfl⟩
    go_wp2_with fail
    go_ret
    refine ⟨?_, HB9.out⟩
    rw [HRF.out]
    exact congrArg (fun z => Ending.returned (.int .i64 z)) (wrap_cls _ _)
end Go.Proofs.YtghahghbahcpfaaGreatDoor
/- The walk over the execution's refused, at artifacts and at secrets. -/
namespace Go.Proofs.YtghahghbahcpfaaGreatDoor
open Go.RowKit

set_option maxRecDepth 100000 in
set_option maxHeartbeats 6400000 in
theorem refused_use (xb : Nat) (c : Nat → Value) (x : StM) (v : ViewM) (j : JobM) (nm tx : ByteArray) (n : Int) (hJ : JB j) (hB : VB v) (w : World) (hst : XSt xb c x w) (hv : VAt xb c v w) (hj : JAt xb c j w) :
    Calls Tryz.prog 59 #[.pointer (some ⟨xb, 0, none⟩), stepV ⟨2, nm, tx, n⟩] w (RefPost j v ⟨2, nm, tx, n⟩ w) := by
  have hlt := hst.lt
  obtain ⟨w1, hw1⟩ : ∃ w1, w.alloc (.cells #[.int .i64 2, .string nm, .string tx, .int .i64 n] 80 (0, 0)) = w1 := ⟨_, rfl⟩
  have hk1 : w1.heap[w.heap.size]? = some (.cells #[.int .i64 2, .string nm, .string tx, .int .i64 n] 80 (0, 0)) := by rw [← hw1]; exact hp_new rfl
  have hb1 : Below w.heap.size w w1 := by rw [← hw1]; exact (Below.refl _ w).alloc (Nat.le_refl _) _
  have hz1 : w.heap.size < w1.heap.size := (Array.getElem?_eq_some_iff.1 hk1).1
  have s0 : w1.cell? ⟨w.heap.size, 0, none⟩ = some (.int .i64 2) := cell_of_blk hk1 0
  have s1 : w1.cell? ⟨w.heap.size, 1, none⟩ = some (.string nm) := cell_of_blk hk1 1
  have s3 : w1.cell? ⟨w.heap.size, 3, none⟩ = some (.int .i64 n) := cell_of_blk hk1 3
  have HW1 := Lib.hid hw1
  have HK1 := Lib.hid hk1
  have HST := Lib.hid (hst.grow hb1)
  have HB1 := Lib.hid hb1
  have HJA := Lib.hid (hj.below (hb1.mono (Nat.le_of_lt hlt)))
  have HV := Lib.hid (hv.below (hb1.mono (Nat.le_of_lt hlt)))
  have CN : Hid (∀ W, Below w1.heap.size w1 W → Calls Tryz.prog 48 #[c 25, .string nm] W fun e w' => e = .returned (.bool (j.uses.contains nm)) ∧ w' = W) := fun W hb =>
    contains_any nm j.uses (c 25) _ (by have := hJ.uses; omega) W (HJA.out.below (hb.mono (Nat.le_of_lt (Nat.lt_trans hlt hz1)))).uses
  have HS : Hid (∀ W' : World, Below w1.heap.size w1 W' → W'.cell? ⟨w.heap.size, 1, none⟩ = some (.string nm) ∧ W'.cell? ⟨xb, 25, none⟩ = some (c 25)) := fun W' hb => ⟨cell_of_blk ((hb.block _ hz1).trans HK1.out) 1, (HST.out.grow hb).cell (by decide)⟩
  have HDR : Hid (Below w1.heap.size w1 w1.drew) := (Below.refl _ _).drew
  have FA : Hid (∀ W, Below w1.heap.size w1 W → Calls Tryz.prog 84 #[.pointer (some ⟨xb, 0, none⟩), .string nm] W (FirPost EOut [.string ⟨#[]⟩, .int .u64 0, .int .i64 0] (fun x => decide (x.name = nm)) v.arts W)) := fun W hb =>
    artifact_any nm xb v.arts (c 40) _ (by have := hB.arts; omega) W ((HST.out.grow hb).cell (by decide)) (HV.out.below (hb.mono (Nat.le_of_lt (Nat.lt_trans hlt hz1)))).arts
  have HRF : Hid (refusedF (declF j.inputs) j v ⟨2, nm, tx, n⟩ = classF (j.uses.contains nm) 6 + classF (!(j.uses.contains nm && !(v.arts.find? (fun y => decide (y.name = nm))).isSome)) 7) := by
    unfold Hid refusedF
    dsimp only
    rw [if_neg (by decide), if_pos rfl, show (artF v nm).isNone = !(artF v nm).isSome by cases artF v nm <;> rfl]
    rfl
  obtain ⟨d, hd⟩ : ∃ d, j.uses.contains nm = d := ⟨_, rfl⟩
  rw [hd] at HRF CN
  clear hst hv hB hJ hj hk1 hb1 hw1 hd
  go_enter Tryz.func59, Tryz.ntmps59
  go_upto_region 1 with fail
  rw [HW1.out]
  clear HW1
  go_upto_region 16 with fail
  refine wp_region_Z (S := fun W' : World => W'.cell? ⟨w.heap.size, 1, none⟩ = some (.string nm) ∧ W'.cell? ⟨xb, 25, none⟩ = some (c 25)) 8 (by kernel_rfl) (HS.out _ HDR.out) (fun hHeld => ?_)
  refine ztk 0 ?_
  try simp only [Act.put, zA, zB, zC]
  refine ztk 1 ?_
  try simp only [Act.put, zA, zB, zC]
  refine ztk 2 ?_
  try simp only [Act.put, zA, zB, zC]
  refine ztk 3 ?_
  try simp only [Act.put, zA, zB, zC]
  refine ztk 4 ?_
  try simp only [Act.put, zA, zB, zC]
  refine ztk 5 ?_
  try simp only [Act.put, zA, zB, zC]
  refine ztk 6 ?_
  try simp only [Act.put, zA, zB, zC]
  refine wpAnyZ_oneL (i := 7) (by kernel_rfl) rfl (fun K hK => ?_)
  go_simp
  go_at_call 48
  refine (CN.out _ HDR.out).mono ?_
  rintro e w5 ⟨rfl, hw5⟩
  have HB5 : Hid (Below w1.heap.size w1 w5) := by unfold Hid; rw [hw5]; exact HDR.out
  clear hw5
  refine hK.out _ _ (fun _ => HS.out _ HB5.out) (fun hHeld => ?_)
  replace hHeld := hHeld (by decide)
  clear hK K
  try simp only [Act.put, zA, zB, zC]
  refine wpAnyZ_oneL (i := 8) (by kernel_rfl) rfl (fun K hK => ?_)
  go_simp
  refine hK.out _ _ (fun h => absurd h (by decide)) (fun _ => ?_)
  clear hK K
  try simp only [Act.put, zA, zB, zC]
  refine wpAnyZ_done (by kernel_rfl) ?_ _
  clear hHeld
  have s1 : w5.cell? ⟨w.heap.size, 1, none⟩ = some (.string nm) := (HS.out _ HB5.out).1
  go_wp2_with fail
  refine (FA.out _ HB5.out).mono ?_
  rintro e w2 ⟨cs, rfl, hsome, hnone, hb⟩
  have hcs : ∃ (a : ByteArray) (b z : Int), cs = [.string a, .int .u64 b, .int .i64 z] := by
    cases hq : v.arts.find? (fun y => decide (y.name = nm)) with
    | none => exact ⟨_, _, _, hnone hq⟩
    | some f => exact ⟨_, _, _, hsome f hq⟩
  obtain ⟨fa, fd, fz, rfl⟩ := hcs
  obtain ⟨t, ht⟩ : ∃ t, (v.arts.find? (fun y => decide (y.name = nm))).isSome = t := ⟨_, rfl⟩
  rw [ht] at HRF ⊢
  have HB2 := Lib.hid (HB5.out.trans (hb.mono HB5.out.size))
  clear hb hsome hnone FA ht s1
  go_wp2_with (refine wpList_store_row rfl tOut _ _ rfl w2.heap.size rfl tOut _ (hp_new rfl) (.agg #[.string fa, .int .u64 fd, .int .i64 fz]) rfl (by kernel_rfl) rfl rfl ?_)
  intro w3 hw3
  have HB3 : Hid (Below w1.heap.size w1 w3) := HB2.out.trans ((((Below.refl _ w2).alloc (Nat.le_refl _) _).trans (hw3.below (Nat.le_refl _))).mono HB2.out.size)
  have HB9 : Hid (Below w.heap.size w w3) := HB1.out.trans (HB3.out.mono HB1.out.size)
  clear HS HDR CN HB5 HB3 HB2 hw3
  cases d <;> cases t <;>
  · go_wp2_with fail
    refine (class_any _ 6 _).mono ?_
    rintro e w6 ⟨rfl, rfl⟩
    go_wp2_with fail
    refine (refin_any _ _).mono ?_
    rintro e w7 ⟨rfl, rfl⟩
    go_wp2_with fail
    go_ret
    refine ⟨?_, HB9.out⟩
    rw [HRF.out]
    exact congrArg (fun z => Ending.returned (.int .i64 z)) (wrap_cls _ _)
set_option maxRecDepth 100000 in
set_option maxHeartbeats 6400000 in
theorem refused_secret (xb : Nat) (c : Nat → Value) (x : StM) (v : ViewM) (j : JobM) (op : Int) (ho : op = 7 ∨ op = 3) (nm tx : ByteArray) (n : Int) (hJ : JB j) (hB : VB v) (w : World) (hst : XSt xb c x w) (hv : VAt xb c v w) (hj : JAt xb c j w) :
    Calls Tryz.prog 59 #[.pointer (some ⟨xb, 0, none⟩), stepV ⟨op, nm, tx, n⟩] w (RefPost j v ⟨op, nm, tx, n⟩ w) := by
  have hlt := hst.lt
  obtain ⟨w1, hw1⟩ : ∃ w1, w.alloc (.cells #[.int .i64 op, .string nm, .string tx, .int .i64 n] 80 (0, 0)) = w1 := ⟨_, rfl⟩
  have hk1 : w1.heap[w.heap.size]? = some (.cells #[.int .i64 op, .string nm, .string tx, .int .i64 n] 80 (0, 0)) := by rw [← hw1]; exact hp_new rfl
  have hb1 : Below w.heap.size w w1 := by rw [← hw1]; exact (Below.refl _ w).alloc (Nat.le_refl _) _
  have hz1 : w.heap.size < w1.heap.size := (Array.getElem?_eq_some_iff.1 hk1).1
  have s0 : w1.cell? ⟨w.heap.size, 0, none⟩ = some (.int .i64 op) := cell_of_blk hk1 0
  have s1 : w1.cell? ⟨w.heap.size, 1, none⟩ = some (.string nm) := cell_of_blk hk1 1
  have s3 : w1.cell? ⟨w.heap.size, 3, none⟩ = some (.int .i64 n) := cell_of_blk hk1 3
  have HW1 := Lib.hid hw1
  have HK1 := Lib.hid hk1
  have HST := Lib.hid (hst.grow hb1)
  have HB1 := Lib.hid hb1
  have HJA := Lib.hid (hj.below (hb1.mono (Nat.le_of_lt hlt)))
  have HJ := Lib.hid hJ
  have TA := Lib.hid (text_any nm xb v.secs (c 41) _ (by have := hB.secs; omega) w1 ((hst.grow hb1).cell (by decide)) (hv.below (hb1.mono (Nat.le_of_lt hlt))).secs)
  have HRF : Hid (refusedF (declF j.inputs) j v ⟨op, nm, tx, n⟩ = classF ((v.secs.find? (fun x => decide (x.name = nm))).isSome && j.secrets.contains nm) 6) := by
    unfold Hid refusedF
    dsimp only
    rw [if_neg (by omega), if_neg (by omega), if_pos ho]
    rfl
  obtain ⟨d, hd⟩ : ∃ d, j.secrets.contains nm = d := ⟨_, rfl⟩
  obtain ⟨t, ht⟩ : ∃ t, (v.secs.find? (fun x => decide (x.name = nm))).isSome = t := ⟨_, rfl⟩
  rw [hd, ht] at HRF
  rw [ht] at TA
  have HD := Lib.hid hd
  have q1 : ((op : Int) == 1) = false := by rcases ho with rfl | rfl <;> rfl
  have q2 : ((op : Int) == 2) = false := by rcases ho with rfl | rfl <;> rfl
  have q7 : ((op : Int) == 7) = true ∨ ((op : Int) == 7) = false ∧ ((op : Int) == 3) = true := by rcases ho with rfl | rfl <;> decide
  clear hst hv hB hJ hj hk1 hb1 hw1 hd ht ho
  have key : ∀ w2, Below w1.heap.size w1 w2 → Hid (Below w2.heap.size w2 w2.drew) ∧ Hid (∀ W, Below w2.heap.size w2 W → Calls Tryz.prog 48 #[c 28, .string nm] W fun e w' => e = .returned (.bool d) ∧ w' = W) ∧ Hid (∀ W' : World, Below w2.heap.size w2 W' → W'.cell? ⟨w.heap.size, 1, none⟩ = some (.string nm) ∧ W'.cell? ⟨xb, 28, none⟩ = some (c 28)) := fun w2 hb2 => by
    refine ⟨(Below.refl _ _).drew, fun W hb => ?_, fun W' hb => ?_⟩
    · have := contains_any nm j.secrets (c 28) _ (by have := HJ.out.secrets; omega) W (HJA.out.below ((hb2.trans (hb.mono hb2.size)).mono (Nat.le_of_lt (Nat.lt_trans hlt hz1)))).secrets
      rw [HD.out] at this
      exact this
    · have hb' := hb2.trans (hb.mono hb2.size)
      exact ⟨cell_of_blk ((hb'.block _ hz1).trans HK1.out) 1, (HST.out.grow hb').cell (by decide)⟩
  have KEY := Lib.hid key
  clear key
  generalize txtF (v.secs.find? (fun x => decide (x.name = nm))) = tt at *
  rcases q7 with q7 | ⟨q7, q3⟩
  all_goals
    go_enter Tryz.func59, Tryz.ntmps59
    go_upto_region 1 with fail
    rw [HW1.out]
    clear HW1
    go_wp2_with fail
    refine TA.out.mono ?_
    rintro e w2 ⟨rfl, hb⟩
    have HB2 := Lib.hid hb
    obtain ⟨HDR, CN, HS⟩ := KEY.out _ hb
    clear hb TA KEY s0 s1 s3
    cases t with
    | false =>
      go_upto_region 20 with fail
      refine wp_region_Z (S := fun W' : World => W'.cell? ⟨w.heap.size, 1, none⟩ = some (.string nm) ∧ W'.cell? ⟨xb, 28, none⟩ = some (c 28)) 12 (by kernel_rfl) (HS.out _ HDR.out) (fun hHeld => ?_)
      refine ztk 0 ?_
      try simp only [Act.put, zA, zB, zC]
      refine ztk 1 ?_
      try simp only [Act.put, zA, zB, zC]
      refine wpAnyZ_takeD (i := 2) (v := undef) rfl (by kernel_rfl) (by kernel_rfl) (by kernel_rfl) (by kernel_rfl) (fun _ _ _ h => h) (Or.inr ⟨by rfl, rfl⟩) (by assumption) ?_
      try simp only [Act.put, zA, zB, zC]
      refine wpAnyZ_takeD (i := 3) (v := undef) rfl (by kernel_rfl) (by kernel_rfl) (by kernel_rfl) (by kernel_rfl) (fun _ _ _ h => h) (Or.inr ⟨by rfl, rfl⟩) (by assumption) ?_
      try simp only [Act.put, zA, zB, zC]
      refine wpAnyZ_takeD (i := 4) (v := undef) rfl (by kernel_rfl) (by kernel_rfl) (by kernel_rfl) (by kernel_rfl) (fun _ _ _ h => h) (Or.inr ⟨by rfl, rfl⟩) (by assumption) ?_
      try simp only [Act.put, zA, zB, zC]
      refine wpAnyZ_takeD (i := 5) (v := undef) rfl (by kernel_rfl) (by kernel_rfl) (by kernel_rfl) (by kernel_rfl) (fun _ _ _ h => h) (Or.inr ⟨by rfl, rfl⟩) (by assumption) ?_
      try simp only [Act.put, zA, zB, zC]
      refine wpAnyZ_takeD (i := 6) (v := undef) rfl (by kernel_rfl) (by kernel_rfl) (by kernel_rfl) (by kernel_rfl) (fun _ _ _ h => h) (Or.inr ⟨by rfl, rfl⟩) (by assumption) ?_
      try simp only [Act.put, zA, zB, zC]
      refine wpAnyZ_takeD (i := 7) (v := undef) rfl (by kernel_rfl) (by kernel_rfl) (by kernel_rfl) (by kernel_rfl) (fun _ _ _ h => h) (Or.inr ⟨by rfl, rfl⟩) (by assumption) ?_
      try simp only [Act.put, zA, zB, zC]
      refine wpAnyZ_takeD (i := 8) (v := undef) rfl (by kernel_rfl) (by kernel_rfl) (by kernel_rfl) (by kernel_rfl) (fun _ _ _ h => h) (Or.inr ⟨by rfl, rfl⟩) (by assumption) ?_
      try simp only [Act.put, zA, zB, zC]
      have hHeld0 := hHeld
      have HB5 := HDR
      refine wpAnyZ_oneL (i := 9) (by kernel_rfl) rfl (fun K hK => ?_)
      rw [if_neg (by intro h; exact Bool.noConfusion (show false = true from h))]
      refine hK.out _ _ (fun _ => hHeld0) (fun hHeld => ?_)
      replace hHeld := hHeld (by decide)
      clear hK K
      try simp only [Act.put, zA, zB, zC]
      refine ztk 10 ?_
      try simp only [Act.put, zA, zB, zC]
      refine wpAnyZ_oneL (i := 11) (by kernel_rfl) rfl (fun K hK => ?_)
      go_simp
      go_at_call 82
      refine (class_any _ 6 _).mono ?_
      rintro e w6 ⟨rfl, hw6⟩
      have HB6 : Hid (Below w2.heap.size w2 w6) := by unfold Hid; rw [hw6]; exact HB5.out
      clear hw6
      refine hK.out _ _ (fun _ => HS.out _ HB6.out) (fun hHeld => ?_)
      replace hHeld := hHeld (by decide)
      clear hK K
      try simp only [Act.put, zA, zB, zC]
      refine wpAnyZ_oneL (i := 12) (by kernel_rfl) rfl (fun K hK => ?_)
      go_simp
      refine hK.out _ _ (fun h => absurd h (by decide)) (fun _ => ?_)
      clear hK K
      try simp only [Act.put, zA, zB, zC]
      refine wpAnyZ_done (by kernel_rfl) ?_ _
      clear hHeld
      have HB9 : Hid (Below w.heap.size w w6) := HB1.out.trans ((HB2.out.trans (HB6.out.mono HB2.out.size)).mono HB1.out.size)
      go_wp2_with fail
      go_ret
      exact ⟨by rw [HRF.out] <;> rfl, HB9.out⟩
    | true =>
      go_upto_region 20 with fail
      refine wp_region_Z (S := fun W' : World => W'.cell? ⟨w.heap.size, 1, none⟩ = some (.string nm) ∧ W'.cell? ⟨xb, 28, none⟩ = some (c 28)) 12 (by kernel_rfl) (HS.out _ HDR.out) (fun hHeld => ?_)
      refine ztk 0 ?_
      try simp only [Act.put, zA, zB, zC]
      refine ztk 1 ?_
      try simp only [Act.put, zA, zB, zC]
      refine ztk 2 ?_
      try simp only [Act.put, zA, zB, zC]
      refine ztk 3 ?_
      try simp only [Act.put, zA, zB, zC]
      refine ztk 4 ?_
      try simp only [Act.put, zA, zB, zC]
      refine ztk 5 ?_
      try simp only [Act.put, zA, zB, zC]
      refine ztk 6 ?_
      try simp only [Act.put, zA, zB, zC]
      refine ztk 7 ?_
      try simp only [Act.put, zA, zB, zC]
      refine ztk 8 ?_
      try simp only [Act.put, zA, zB, zC]
      refine wpAnyZ_oneL (i := 9) (by kernel_rfl) rfl (fun K hK => ?_)
      go_simp
      go_at_call 48
      refine (CN.out _ HDR.out).mono ?_
      rintro e w5 ⟨rfl, hw5⟩
      have HB5 : Hid (Below w2.heap.size w2 w5) := by unfold Hid; rw [hw5]; exact HDR.out
      clear hw5
      refine hK.out _ _ (fun _ => HS.out _ HB5.out) (fun hHeld => ?_)
      replace hHeld := hHeld (by decide)
      clear hK K
      try simp only [Act.put, zA, zB, zC]
      refine ztk 10 ?_
      try simp only [Act.put, zA, zB, zC]
      refine wpAnyZ_oneL (i := 11) (by kernel_rfl) rfl (fun K hK => ?_)
      go_simp
      go_at_call 82
      refine (class_any _ 6 _).mono ?_
      rintro e w6 ⟨rfl, hw6⟩
      have HB6 : Hid (Below w2.heap.size w2 w6) := by unfold Hid; rw [hw6]; exact HB5.out
      clear hw6
      refine hK.out _ _ (fun _ => HS.out _ HB6.out) (fun hHeld => ?_)
      replace hHeld := hHeld (by decide)
      clear hK K
      try simp only [Act.put, zA, zB, zC]
      refine wpAnyZ_oneL (i := 12) (by kernel_rfl) rfl (fun K hK => ?_)
      go_simp
      refine hK.out _ _ (fun h => absurd h (by decide)) (fun _ => ?_)
      clear hK K
      try simp only [Act.put, zA, zB, zC]
      refine wpAnyZ_done (by kernel_rfl) ?_ _
      clear hHeld
      have HB9 : Hid (Below w.heap.size w w6) := HB1.out.trans ((HB2.out.trans (HB6.out.mono HB2.out.size)).mono HB1.out.size)
      go_wp2_with fail
      go_ret
      exact ⟨by rw [HRF.out] <;> rfl, HB9.out⟩
end Go.Proofs.YtghahghbahcpfaaGreatDoor
