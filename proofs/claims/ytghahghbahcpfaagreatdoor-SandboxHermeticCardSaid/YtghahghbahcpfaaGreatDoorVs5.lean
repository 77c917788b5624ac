/- The walk over the execution's take at an artifact. -/
import Derived.Test.YtghahghbahcpfaaGreatDoorVs4
namespace Go.Proofs.YtghahghbahcpfaaGreatDoor
open Go.RowKit

set_option maxRecDepth 100000 in
set_option maxHeartbeats 6400000 in
theorem take_use (xb : Nat) (c : Nat → Value) (x : StM) (v : ViewM) (s : StepM) (h1 : s.op = 2) (f : OutM) (hf : artF v s.name = some f) (hrl : x.reads.length ≤ 900) (hB : VB v) (w : World) (hst : XSt xb c x w) (hv : VAt xb c v w) :
    Calls Tryz.prog 90 #[.pointer (some ⟨xb, 0, none⟩), stepV s] w fun e w' => e = .returned (.tuple #[]) ∧ XSt xb c (takeF v x s) w' ∧ BS xb w w' := by
  obtain ⟨op, nm, tx, n⟩ := s
  dsimp only at h1 hf
  subst h1
  have hmem := List.mem_of_find?_eq_some hf
  obtain ⟨hps, hdg⟩ := hB.artN f hmem
  have HTF : Hid (takeF v x ⟨2, nm, tx, n⟩ = { x with acc := ofN [117, 115, 101] [x.acc, sumS f.name, f.dig], reads := putF x.reads f }) := by
    unfold Hid takeF
    dsimp only
    rw [if_neg (by decide), if_pos rfl, hf]
  have hlt := hst.lt
  obtain ⟨w1, hw1⟩ : ∃ w1, w.alloc (.cells #[.int .i64 2, .string nm, .string tx, .int .i64 n] 80 (0, 0)) = w1 := ⟨_, rfl⟩
  have hk1 : w1.heap[w.heap.size]? = some (.cells #[.int .i64 2, .string nm, .string tx, .int .i64 n] 80 (0, 0)) := by rw [← hw1]; exact hp_new rfl
  have hb1 : Below w.heap.size w w1 := by rw [← hw1]; exact (Below.refl _ w).alloc (Nat.le_refl _) _
  have hz1 : w.heap.size < w1.heap.size := (Array.getElem?_eq_some_iff.1 hk1).1
  have FA := Lib.hid (artifact_any nm xb v.arts (c 40) _ (by have := hB.arts; omega) w1 ((hst.grow hb1).cell (by decide)) (hv.below (hb1.mono (Nat.le_of_lt hlt))).arts)
  have s0 : w1.cell? ⟨w.heap.size, 0, none⟩ = some (.int .i64 2) := cell_of_blk hk1 0
  have s1 : w1.cell? ⟨w.heap.size, 1, none⟩ = some (.string nm) := cell_of_blk hk1 1
  have HST := Lib.hid (hst.grow hb1)
  have HB1 := Lib.hid hb1
  have HW1 := Lib.hid hw1
  have HFQ : Hid (v.arts.find? (fun y => decide (y.name = nm)) = some f) := hf
  have SUM := Lib.hid (fun w => sum_any f.name (by omega) w)
  have hsm64 : sumS f.name < 18446744073709551616 := sumN_lt _
  have HDS : Hid (∀ d ∈ [sumS f.name, f.dig], d < 18446744073709551616) := fun d hd => by
    rcases List.mem_cons.1 hd with rfl | hd
    · exact hsm64
    · rw [List.mem_singleton.1 hd]; exact hdg
  obtain ⟨sm, hsm⟩ : ∃ sm, sumS f.name = sm := ⟨_, rfl⟩
  rw [hsm] at SUM HDS HTF
  obtain ⟨fnm, dg, sz⟩ := f
  dsimp only at hps hdg hsm SUM HDS HTF
  clear hst hv hB hk1 hb1 hw1 hf hmem hdg hsm64 hsm
  go_enter Tryz.func90, Tryz.ntmps90
  go_upto_region 1 with fail
  rw [HW1.out]
  clear HW1
  go_wp2_with fail
  refine FA.out.mono ?_
  rintro e w2 ⟨cs, rfl, hsome, _, hb⟩
  have hcs : cs = [.string fnm, .int .u64 (dg : Nat), .int .i64 sz] := hsome _ HFQ.out
  subst hcs
  have HB2 := Lib.hid (HB1.out.trans (hb.mono HB1.out.size))
  have HST2 := Lib.hid (HST.out.grow hb)
  have hz2 := HB2.out.size
  have HQ2 : Hid ((v.arts.find? (fun y => decide (y.name = nm))).isSome = true) := by unfold Hid; rw [HFQ.out]; rfl
  rw [HQ2.out]
  clear hb hsome FA s0 s1 HQ2
  go_wp2_with (refine wpList_store_row rfl tOut _ _ rfl w2.heap.size rfl tOut _ (hp_new rfl) (.agg #[.string fnm, .int .u64 (dg : Nat), .int .i64 sz]) rfl (by kernel_rfl) rfl rfl ?_)
  intro w3 hw3
  have hk3 : w3.heap[w2.heap.size]? = some (.cells #[.string fnm, .int .u64 (dg : Nat), .int .i64 sz] tOut (0, 0)) := hw3.at_
  have HB23 : Hid (Below w2.heap.size w2 w3) := ((Below.refl _ w2).alloc (Nat.le_refl _) _).trans (hw3.below (Nat.le_refl _))
  have HX3 := Lib.hid (HST2.out.grow HB23.out)
  have HB3 := Lib.hid (HB2.out.trans (HB23.out.mono HB2.out.size))
  obtain ⟨fb, hfb⟩ : ∃ fb, w2.heap.size = fb := ⟨_, rfl⟩
  have hfx : fb ≠ xb := by omega
  rw [hfb] at hk3
  have hfb3 : fb < w3.heap.size := (Array.getElem?_eq_some_iff.1 hk3).1
  have HS3 : Hid (∀ W' : World, Below w3.heap.size w3 W' → W'.cell? ⟨fb, 0, none⟩ = some (.string fnm) ∧ W'.cell? ⟨fb, 1, none⟩ = some (.int .u64 (dg : Nat))) := fun W' hb => ⟨cell_of_blk ((hb.block _ hfb3).trans hk3) 0, cell_of_blk ((hb.block _ hfb3).trans hk3) 1⟩
  have HDR : Hid (Below w3.heap.size w3 w3.drew) := (Below.refl _ _).drew
  have HK3 := Lib.hid hk3
  have HFB3 := Lib.hid hfb3
  clear hw3 hk3 HB23
  go_upto_region 8 with fail
  rw [hfb]
  clear hfb hz2 hfb3
  refine wp_region_Z (S := fun W' : World => W'.cell? ⟨fb, 0, none⟩ = some (.string fnm) ∧ W'.cell? ⟨fb, 1, none⟩ = some (.int .u64 (dg : Nat))) 7 (by kernel_rfl) (HS3.out _ HDR.out) (fun hHeld => ?_)
  refine ztk 0 ?_
  try simp only [Act.put, zA, zB, zC]
  refine ztk 1 ?_
  try simp only [Act.put, zA, zB, zC]
  refine ztk 2 ?_
  try simp only [Act.put, zA, zB, zC]
  refine ztk 4 ?_
  try simp only [Act.put, zA, zB, zC]
  refine ztk 5 ?_
  try simp only [Act.put, zA, zB, zC]
  refine wpAnyZ_oneL (i := 3) (by kernel_rfl) rfl (fun K hK => ?_)
  go_simp
  go_at_call 39
  refine (SUM.out _).mono ?_
  rintro e w5 ⟨rfl, hb5⟩
  have HB5 := Lib.hid (HDR.out.trans (hb5.mono HDR.out.size))
  clear hb5
  refine hK.out _ _ (fun _ => HS3.out _ HB5.out) (fun hHeld => ?_)
  replace hHeld := hHeld (by decide)
  clear hK K
  try simp only [Act.put, zA, zB, zC]
  refine wpAnyZ_oneL (i := 6) (by kernel_rfl) rfl (fun K hK => ?_)
  go_simp
  obtain ⟨w6, hw6⟩ : ∃ w6, w5.alloc (.cells #[.int .u64 (sm : Nat), .int .u64 (dg : Nat)] 58) = w6 := ⟨_, rfl⟩
  have hk6 : w6.heap[w5.heap.size]? = some (.cells #[.int .u64 (sm : Nat), .int .u64 (dg : Nat)] 58 (0, 0)) := by rw [← hw6]; exact hp_new rfl
  have HB6 : Hid (Below w3.heap.size w3 w6) := by unfold Hid; rw [← hw6]; exact HB5.out.alloc HB5.out.size _
  rw [hw6]
  clear hw6
  have MX := Lib.hid (xmix_any xb c x ⟨#[117, 115, 101]⟩ [sm, dg] _ _ (by decide) (by show 2 ≤ 1000; decide) HDS.out w6 (HX3.out.grow HB6.out) (ed_two hk6))
  refine hK.out _ _ (fun _ => HS3.out _ HB6.out) (fun hHeld => ?_)
  replace hHeld := hHeld (by decide)
  clear hK K
  try simp only [Act.put, zA, zB, zC]
  refine wpAnyZ_oneL (i := 7) (by kernel_rfl) rfl (fun K hK => ?_)
  go_simp
  go_at_call 128
  refine MX.out.mono ?_
  rintro e w7 ⟨rfl, hx7, ho7⟩
  have HX7 := Lib.hid hx7
  have HON : Hid (Only xb w3 w7) := Only.pre HB6.out ho7
  clear hx7 ho7 MX
  refine hK.out _ _ (fun h => absurd h (by decide)) (fun _ => ?_)
  clear hK K
  try simp only [Act.put, zA, zB, zC]
  refine wpAnyZ_done (by kernel_rfl) ?_ _
  clear hHeld
  have HB7 : Hid (BS xb w w7) := (BS.of_below HB3.out (Nat.le_of_lt hlt)).trans (BS.of_onlyX HON.out HX3.out)
  have HK7 : Hid (w7.heap[fb]? = some (.cells #[.string fnm, .int .u64 (dg : Nat), .int .i64 sz] tOut (0, 0))) := (HON.out.block _ HFB3.out hfx).trans HK3.out
  obtain ⟨cs, p, l, r, o, t, s, hx7⟩ := HX7.out
  obtain ⟨x7, hx7e⟩ : ∃ x7, ({ x with acc := ofN [117, 115, 101] [x.acc, sm, dg] } : StM) = x7 := ⟨_, rfl⟩
  have hr7 : x7.reads.length ≤ 900 := by rw [← hx7e]; exact hrl
  have hx7 : XAt xb c x7 cs p l r o t s w7 := by rw [← hx7e]; exact hx7
  have HX8 := Lib.hid hx7
  have HE7 := Lib.hid hx7e
  have hfb7 : fb < w7.heap.size := (Array.getElem?_eq_some_iff.1 HK7.out).1
  have HS5 : Hid (∀ W' : World, Below w7.heap.size w7 W' → W'.cell? ⟨xb, 52, none⟩ = some r ∧ W'.cell? ⟨fb, 0, none⟩ = some (.string fnm) ∧ W'.cell? ⟨fb, 1, none⟩ = some (.int .u64 (dg : Nat)) ∧ W'.cell? ⟨fb, 2, none⟩ = some (.int .i64 sz)) := fun W' hb => ⟨(cell_of_blk ((hx7.grow hb).blk) 52).trans hx7.c52, cell_of_blk ((hb.block _ hfb7).trans HK7.out) 0, cell_of_blk ((hb.block _ hfb7).trans HK7.out) 1, cell_of_blk ((hb.block _ hfb7).trans HK7.out) 2⟩
  have HDR2 : Hid (Below w7.heap.size w7 w7.drew) := (Below.refl _ _).drew
  have PT : Hid (∀ W, Below w7.heap.size w7 W → Calls Tryz.prog 91 #[r, .agg #[.string fnm, .int .u64 (dg : Nat), .int .i64 sz]] W fun e w' => ∃ r', e = .returned r' ∧ OutAt xb w' (putF x7.reads ⟨fnm, dg, sz⟩) r' ∧ Below W.heap.size W w') := fun W hb => xput_any xb x7.reads r ⟨fnm, dg, sz⟩ _ (by omega) W (hx7.grow hb).lt (hx7.grow hb).reads.row
  clear hx7 hx7e HX7 hfb7 HON HK3 HS3 SUM
  go_upto_region 9 with fail
  refine wp_region_Z (S := fun W' : World => W'.cell? ⟨xb, 52, none⟩ = some r ∧ W'.cell? ⟨fb, 0, none⟩ = some (.string fnm) ∧ W'.cell? ⟨fb, 1, none⟩ = some (.int .u64 (dg : Nat)) ∧ W'.cell? ⟨fb, 2, none⟩ = some (.int .i64 sz)) 9 (by kernel_rfl) (HS5.out _ HDR2.out) (fun hHeld => ?_)
  refine ztk 0 ?_
  try simp only [Act.put, zA, zB, zC]
  refine ztk 1 ?_
  try simp only [Act.put, zA, zB, zC]
  refine ztk 2 ?_
  try simp only [Act.put, zA, zB, zC]
  refine ztk 3 ?_
  try simp only [Act.put, zA, zB, zC]
  refine ztk 4 ?_
  try simp only [Act.put, zA, zB, zC]
  refine ztk 5 ?_
  try simp only [Act.put, zA, zB, zC]
  refine wpAnyZ_oneL (i := 6) (by kernel_rfl) rfl (fun K hK => ?_)
  go_simp
  go_at_call 91
  refine (PT.out _ HDR2.out).mono ?_
  rintro e w8 ⟨r8, rfl, hr8, hb8⟩
  obtain ⟨g8, p8, hv8⟩ := hr8.row.form
  subst hv8
  have HB8 := Lib.hid (HDR2.out.trans (hb8.mono HDR2.out.size))
  have hx8 := HX8.out.grow HB8.out
  have f852 := free_of_blk hx8.blk 52
  have c852 := (HS5.out _ HB8.out).1
  have hp := hx8.putRow 52 _ ⟨by decide, by decide⟩ { x7 with reads := putF x7.reads ⟨fnm, dg, sz⟩ } ⟨rfl, rfl, rfl, rfl⟩ hr8 hx8.outs hx8.tests hx8.saves
  have HP := Lib.hid hp
  clear hr8 hb8 hx8 hp
  refine hK.out _ _ (fun _ => HS5.out _ HB8.out) (fun hHeld => ?_)
  replace hHeld := hHeld (by decide)
  clear hK K
  try simp only [Act.put, zA, zB, zC]
  refine ztk 7 ?_
  try simp only [Act.put, zA, zB, zC]
  refine ztk 8 ?_
  try simp only [Act.put, zA, zB, zC]
  refine wpAnyZ_oneL (i := 9) (by kernel_rfl) rfl (fun K hK => ?_)
  go_simp
  refine hK.out _ _ (fun h => absurd h (by decide)) (fun _ => ?_)
  clear hK K
  try simp only [Act.put, zA, zB, zC]
  refine wpAnyZ_done (by kernel_rfl) ?_ _
  clear hHeld
  go_wp2_with fail
  go_end0
  have e7 := HE7.out
  subst e7
  refine ⟨rfl, ?_, HB7.out.trans ((BS.of_below HB8.out (Nat.le_of_lt HX8.out.lt)).trans (BS.of_set (HX8.out.grow HB8.out).blk _ _))⟩
  rw [HTF.out]
  exact ⟨_, _, _, _, _, _, _, HP.out.1⟩
end Go.Proofs.YtghahghbahcpfaaGreatDoor
/- The walk over the execution's take: secrets, content with a key, and what takes in nothing. -/
namespace Go.Proofs.YtghahghbahcpfaaGreatDoor
open Go.RowKit

set_option maxRecDepth 100000 in
set_option maxHeartbeats 3200000 in
theorem take_secret (xb : Nat) (c : Nat → Value) (x : StM) (v : ViewM) (s : StepM) (h1 : s.op = 3) (f : SecM) (hf : secF v s.name = some f) (hB : VB v) (w : World) (hst : XSt xb c x w) (hv : VAt xb c v w) :
    Calls Tryz.prog 90 #[.pointer (some ⟨xb, 0, none⟩), stepV s] w fun e w' => e = .returned (.tuple #[]) ∧ XSt xb c (takeF v x s) w' ∧ BS xb w w' := by
  obtain ⟨op, nm, tx, n⟩ := s
  dsimp only at h1 hf
  subst h1
  have hmem := List.mem_of_find?_eq_some hf
  have hps := hB.secN f hmem
  have HTF : Hid (takeF v x ⟨3, nm, tx, n⟩ = { x with acc := ofN [115, 101, 99, 114, 101, 116] [x.acc, sumS f.text] }) := by
    unfold Hid takeF
    dsimp only
    rw [if_neg (by decide), if_neg (by decide), if_pos rfl, hf]
  have hlt := hst.lt
  obtain ⟨w1, hw1⟩ : ∃ w1, w.alloc (.cells #[.int .i64 3, .string nm, .string tx, .int .i64 n] 80 (0, 0)) = w1 := ⟨_, rfl⟩
  have hk1 : w1.heap[w.heap.size]? = some (.cells #[.int .i64 3, .string nm, .string tx, .int .i64 n] 80 (0, 0)) := by rw [← hw1]; exact hp_new rfl
  have hb1 : Below w.heap.size w w1 := by rw [← hw1]; exact (Below.refl _ w).alloc (Nat.le_refl _) _
  have hz1 : w.heap.size < w1.heap.size := (Array.getElem?_eq_some_iff.1 hk1).1
  have FA := Lib.hid (text_any nm xb v.secs (c 41) _ (by have := hB.secs; omega) w1 ((hst.grow hb1).cell (by decide)) (hv.below (hb1.mono (Nat.le_of_lt hlt))).secs)
  have s0 : w1.cell? ⟨w.heap.size, 0, none⟩ = some (.int .i64 3) := cell_of_blk hk1 0
  have s1 : w1.cell? ⟨w.heap.size, 1, none⟩ = some (.string nm) := cell_of_blk hk1 1
  have HST := Lib.hid (hst.grow hb1)
  have HB1 := Lib.hid hb1
  have HW1 := Lib.hid hw1
  have HFQ : Hid (v.secs.find? (fun y => decide (y.name = nm)) = some f) := hf
  have SUM := Lib.hid (fun w => sum_any f.text (by omega) w)
  have hsm64 : sumS f.text < 18446744073709551616 := sumN_lt _
  obtain ⟨sm, hsm⟩ : ∃ sm, sumS f.text = sm := ⟨_, rfl⟩
  rw [hsm] at SUM HTF hsm64
  clear hst hv hB hk1 hb1 hw1 hf hmem hsm
  go_enter Tryz.func90, Tryz.ntmps90
  go_upto_region 1 with fail
  rw [HW1.out]
  clear HW1
  go_wp2_with fail
  refine FA.out.mono ?_
  rw [HFQ.out]
  rintro e w2 ⟨rfl, hb⟩
  have HB2 := Lib.hid (HB1.out.trans (hb.mono HB1.out.size))
  have HST2 := Lib.hid (HST.out.grow hb)
  clear hb FA s0 s1
  go_wp2_with fail
  refine (SUM.out _).mono ?_
  rintro e w3 ⟨rfl, hb⟩
  have HB3 := Lib.hid (HB2.out.trans (hb.mono HB2.out.size))
  have hx3 := HST2.out.grow hb
  have hz3 := HB3.out.size
  have hgr : Below w3.heap.size w3 (w3.alloc (.cells #[.int .u64 (sm : Nat)] 58)) := (Below.refl _ w3).alloc (Nat.le_refl _) _
  have HB4 : Hid (BS xb w (w3.alloc (.cells #[.int .u64 (sm : Nat)] 58))) := BS.of_below (HB3.out.trans (hgr.mono HB3.out.size)) (Nat.le_of_lt hlt)
  have HX4 := Lib.hid (hx3.grow hgr)
  have MX := Lib.hid (xmix_any xb c x ⟨#[115, 101, 99, 114, 101, 116]⟩ [sm] _ _ (by decide) (by show 1 ≤ 1000; decide) (fun d hd => by rw [List.mem_singleton.1 hd]; exact hsm64) (w3.alloc (.cells #[.int .u64 (sm : Nat)] 58)) (hx3.grow hgr) (ed_one (hp_new rfl)))
  clear hb hx3 hgr SUM
  go_wp2_with fail
  refine MX.out.mono ?_
  rintro e w4 ⟨rfl, hx4, hb⟩
  have HX5 := Lib.hid hx4
  have HB5 : Hid (BS xb w w4) := HB4.out.trans (BS.of_onlyX hb HX4.out)
  clear hx4 hb MX
  go_wp2_with fail
  go_end0
  refine ⟨rfl, ?_, HB5.out⟩
  rw [HTF.out]
  exact HX5.out
set_option maxRecDepth 100000 in
set_option maxHeartbeats 3200000 in
theorem take_memo (n : Nat) (xb : Nat) (c : Nat → Value) (x : StM) (v : ViewM) (nm tx : ByteArray) (hn : n < v.keys.length) (hsv : x.saves.length ≤ 10000) (hB : VB v) (w : World) (hst : XSt xb c x w) (hv : VAt xb c v w) :
    Calls Tryz.prog 90 #[.pointer (some ⟨xb, 0, none⟩), stepV ⟨4, nm, tx, (n : Nat)⟩] w fun e w' => e = .returned (.tuple #[]) ∧ XSt xb c (takeF v x ⟨4, nm, tx, (n : Nat)⟩) w' ∧ BS xb w w' := by
  have HTF : Hid (takeF v x ⟨4, nm, tx, (n : Nat)⟩ = memoSt v x (n : Nat)) := by
    unfold Hid takeF memoSt
    dsimp only
    rw [if_neg (by decide), if_neg (by decide), if_neg (by decide), if_pos rfl]
  have hlt := hst.lt
  obtain ⟨w1, hw1⟩ : ∃ w1, w.alloc (.cells #[.int .i64 4, .string nm, .string tx, .int .i64 (n : Nat)] 80 (0, 0)) = w1 := ⟨_, rfl⟩
  have hk1 : w1.heap[w.heap.size]? = some (.cells #[.int .i64 4, .string nm, .string tx, .int .i64 (n : Nat)] 80 (0, 0)) := by rw [← hw1]; exact hp_new rfl
  have hb1 : Below w.heap.size w w1 := by rw [← hw1]; exact (Below.refl _ w).alloc (Nat.le_refl _) _
  have MM := Lib.hid (xmemo_any n xb c x v hn hsv hB w1 (hst.grow hb1) (hv.below (hb1.mono (Nat.le_of_lt hlt))))
  have s0 : w1.cell? ⟨w.heap.size, 0, none⟩ = some (.int .i64 4) := cell_of_blk hk1 0
  have s3 : w1.cell? ⟨w.heap.size, 3, none⟩ = some (.int .i64 (n : Nat)) := cell_of_blk hk1 3
  have HB1 : Hid (BS xb w w1) := BS.of_below hb1 (Nat.le_of_lt hlt)
  have HW1 := Lib.hid hw1
  clear hst hv hB hk1 hb1 hw1
  go_enter Tryz.func90, Tryz.ntmps90
  go_upto_region 1 with fail
  rw [HW1.out]
  clear HW1
  go_wp2_with fail
  refine MM.out.mono ?_
  rintro e w2 ⟨rfl, hx2, hb⟩
  have HX2 := Lib.hid hx2
  have HB2 := Lib.hid (HB1.out.trans hb)
  clear hx2 hb MM
  go_wp2_with fail
  go_end0
  refine ⟨rfl, ?_, HB2.out⟩
  rw [HTF.out]
  exact HX2.out
set_option maxRecDepth 100000 in
set_option maxHeartbeats 3200000 in
theorem take_other (xb : Nat) (c : Nat → Value) (x : StM) (v : ViewM) (s : StepM) (h1 : ((s.op : Int) == 1) = false) (h2 : ((s.op : Int) == 2) = false) (h3 : ((s.op : Int) == 3) = false) (h4 : ((s.op : Int) == 4) = false) (w : World) (hst : XSt xb c x w) :
    Calls Tryz.prog 90 #[.pointer (some ⟨xb, 0, none⟩), stepV s] w fun e w' => e = .returned (.tuple #[]) ∧ XSt xb c (takeF v x s) w' ∧ BS xb w w' := by
  obtain ⟨op, nm, tx, n⟩ := s
  dsimp only at h1 h2 h3 h4
  have HTF : Hid (takeF v x ⟨op, nm, tx, n⟩ = x) := by
    unfold Hid takeF
    dsimp only
    rw [if_neg (by simpa using h1), if_neg (by simpa using h2), if_neg (by simpa using h3), if_neg (by simpa using h4)]
  have hlt := hst.lt
  obtain ⟨w1, hw1⟩ : ∃ w1, w.alloc (.cells #[.int .i64 op, .string nm, .string tx, .int .i64 n] 80 (0, 0)) = w1 := ⟨_, rfl⟩
  have hk1 : w1.heap[w.heap.size]? = some (.cells #[.int .i64 op, .string nm, .string tx, .int .i64 n] 80 (0, 0)) := by rw [← hw1]; exact hp_new rfl
  have hb1 : Below w.heap.size w w1 := by rw [← hw1]; exact (Below.refl _ w).alloc (Nat.le_refl _) _
  have s0 : w1.cell? ⟨w.heap.size, 0, none⟩ = some (.int .i64 op) := cell_of_blk hk1 0
  have HST := Lib.hid (hst.grow hb1)
  have HB1 : Hid (BS xb w w1) := BS.of_below hb1 (Nat.le_of_lt hlt)
  have HW1 := Lib.hid hw1
  clear hst hk1 hb1 hw1
  go_enter Tryz.func90, Tryz.ntmps90
  go_upto_region 1 with fail
  rw [HW1.out]
  clear HW1
  go_wp2_with fail
  go_end0
  refine ⟨rfl, ?_, HB1.out⟩
  rw [HTF.out]
  exact HST.out
/-- a step takes in only what is there -/
structure OkS (v : ViewM) (s : StepM) : Prop where
  file : s.op = 1 → (fileF v s.name).isSome = true
  art : s.op = 2 → (artF v s.name).isSome = true
  sec : s.op = 3 → (secF v s.name).isSome = true
  key : s.op = 4 → 0 ≤ s.n ∧ s.n < (v.keys.length : Int)
theorem xtake_any (xb : Nat) (c : Nat → Value) (x : StM) (v : ViewM) (s : StepM) (hok : OkS v s) (hrl : x.reads.length ≤ 900) (hsv : x.saves.length ≤ 10000) (hB : VB v) (w : World) (hst : XSt xb c x w) (hv : VAt xb c v w) :
    Calls Tryz.prog 90 #[.pointer (some ⟨xb, 0, none⟩), stepV s] w fun e w' => e = .returned (.tuple #[]) ∧ XSt xb c (takeF v x s) w' ∧ BS xb w w' := by
  by_cases h1 : s.op = 1
  · obtain ⟨f, hf⟩ := Option.isSome_iff_exists.1 (hok.file h1)
    exact take_read xb c x v s h1 f hf hrl hB w hst hv
  by_cases h2 : s.op = 2
  · obtain ⟨f, hf⟩ := Option.isSome_iff_exists.1 (hok.art h2)
    exact take_use xb c x v s h2 f hf hrl hB w hst hv
  by_cases h3 : s.op = 3
  · obtain ⟨f, hf⟩ := Option.isSome_iff_exists.1 (hok.sec h3)
    exact take_secret xb c x v s h3 f hf hB w hst hv
  by_cases h4 : s.op = 4
  · obtain ⟨h5, h6⟩ := hok.key h4
    obtain ⟨op, nm, tx, n⟩ := s
    obtain ⟨n, rfl⟩ := Int.eq_ofNat_of_zero_le h5
    dsimp only at h4 h6
    subst h4
    exact take_memo n xb c x v nm tx (by omega) hsv hB w hst hv
  · exact take_other xb c x v s (by simpa using h1) (by simpa using h2) (by simpa using h3) (by simpa using h4) w hst
end Go.Proofs.YtghahghbahcpfaaGreatDoor
/- The walks over slices.Index and slices.Contains at strings. -/
namespace Go.Proofs.YtghahghbahcpfaaGreatDoor
open Go.RowKit

theorem bytes_beq {x y : ByteArray} (h : (x.toList == y.toList) = true) : x = y := by
  have := tl_eq x y
  rw [h] at this
  exact of_decide_eq_true this.symm
def IxsRel (key : ByteArray) (ks : List ByteArray) (w1 : World) (f : Nat) (t8 : Value) (wr : World) : Prop :=
  ∃ i : Nat, t8 = .int .i64 (i : Nat) ∧ i ≤ ks.length ∧ f = ks.length - i ∧ fstI (fun x => decide (x = key)) ks = (fstI (fun x => decide (x = key)) (ks.drop i)).map (· + i) ∧ wr = w1
set_option maxRecDepth 100000 in
set_option maxHeartbeats 1600000 in
theorem index_any (key : ByteArray) (ks : List ByteArray) (ko : Option Addr) (kc : Nat) (B : Nat → Prop) (hl : ks.length ≤ 9223372036854775807) (w : World) (h : EStr.Row B w ks (.slice ko ks.length kc)) :
    Calls Tryz.prog 71 #[.slice ko ks.length kc, .string key] w fun e w' => e = .returned (.int .i64 (idxI (fstI (fun x => decide (x = key)) ks))) ∧ w' = w := by
  have H := Lib.hid h
  clear h
  go_enter Tryz.func71, Tryz.ntmps71
  go_wp2_with fail
  go_loopg [8] ks.length (IxsRel key ks w)
  case atStart => exact ⟨0, rfl, Nat.zero_le _, rfl, by simp, rfl⟩
  case round =>
    obtain ⟨i, rfl, hi, rfl, hk, rfl⟩ := hrel
    have HK := Lib.hid hk
    clear hk
    by_cases hlt : i < ks.length
    · obtain ⟨b1, o1, rfl, _, hc1⟩ := strs_at H.out hlt
      have hii : (i : Int) < (ks.length : Int) := by omega
      have HS := Lib.hid (fstI_step hlt HK.out)
      generalize ks[i] = x at *
      by_cases hx : x = key
      · have HN := Lib.hid (HS.out.1 (decide_eq_true hx))
        subst hx
        have t1 : (x.toList == x.toList) = true := by simp
        clear HS HK
        as_aux_lemma =>
        go_wp2_with fail
        go_ret
        exact ⟨by rw [HN.out] <;> rfl, rfl⟩
      · have HN := Lib.hid (HS.out.2 (decide_eq_false hx))
        have t1 : (key.toList == x.toList) = false := by rw [Bool.eq_false_iff]; exact fun h => hx (bytes_beq h).symm
        clear HS HK hx
        as_aux_lemma =>
        go_wp2_with fail
        go_roundg (ks.length - (i + 1))
        case measure => omega
        case rel => exact ⟨i + 1, by go_num, by omega, rfl, HN.out, rfl⟩
    · have hii : ¬ (i : Int) < (ks.length : Int) := by omega
      have he : i = ks.length := by omega
      have HN : Hid (fstI (fun x => decide (x = key)) ks = none) := by unfold Hid; rw [HK.out, he, List.drop_length]; rfl
      clear HK he
      go_wp2_with fail
      go_ret
      exact ⟨by rw [HN.out] <;> rfl, rfl⟩
theorem ba_beq (a b : ByteArray) : (a == b) = decide (a = b) := by
  obtain ⟨a⟩ := a
  obtain ⟨b⟩ := b
  show (a == b) = _
  rw [Bool.eq_iff_iff, beq_iff_eq, decide_eq_true_eq]
  exact ⟨fun h => by rw [h], fun h => by injection h⟩
theorem any_contains (ks : List ByteArray) (key : ByteArray) : ks.any (fun x => decide (x = key)) = ks.contains key := by
  induction ks with
  | nil => rfl
  | cons x l ih =>
    rw [List.any_cons, List.contains_cons, ih]
    congr 1
    rw [ba_beq, Bool.eq_iff_iff, decide_eq_true_eq, decide_eq_true_eq]
    exact ⟨fun h => h.symm, fun h => h.symm⟩
set_option maxRecDepth 100000 in
theorem contains_any (key : ByteArray) (ks : List ByteArray) (v : Value) (B : Nat → Prop) (hl : ks.length ≤ 9223372036854775807) (w : World) (h : EStr.Row B w ks v) :
    Calls Tryz.prog 48 #[v, .string key] w fun e w' => e = .returned (.bool (ks.contains key)) ∧ w' = w := by
  obtain ⟨ko, kc, rfl⟩ := h.form
  have IX := Lib.hid (index_any key ks ko kc B hl w h)
  have HA : Hid (decide (0 ≤ idxI (fstI (fun x => decide (x = key)) ks)) = ks.contains key) := by unfold Hid; rw [idxI_ge, fstI_some, any_contains]
  clear h
  generalize idxI (fstI (fun x => decide (x = key)) ks) = q at *
  go_enter Tryz.func48, Tryz.ntmps48
  go_wp2_with fail
  refine IX.out.mono ?_
  rintro e w5 ⟨rfl, rfl⟩
  go_wp2_with fail
  go_ret
  exact ⟨by rw [← HA.out] <;> rfl, rfl⟩
end Go.Proofs.YtghahghbahcpfaaGreatDoor
