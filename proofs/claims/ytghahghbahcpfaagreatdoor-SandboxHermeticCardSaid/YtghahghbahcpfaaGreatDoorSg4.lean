/- The walk over the execution's refused, at content with a key. -/
import Derived.Test.YtghahghbahcpfaaGreatDoorVs6
namespace Go.Proofs.YtghahghbahcpfaaGreatDoor
open Go.RowKit

theorem wrap_cls2 (a b : Bool) : IntKind.i64.wrap (classF a 6 + classF b 7) = classF a 6 + classF b 7 := by cases a <;> cases b <;> kernel_rfl
theorem ba_empty (k : ByteArray) : decide (k.size = 0) = k.toList.isEmpty := by
  rw [Lib.toList_data]
  obtain ⟨⟨l⟩⟩ := k
  cases l <;> rfl
/-- as wpAnyZ_takeD, by way of longer chains -/
theorem wpAnyZ_takeE {P : Program} {ops : Array Oper} {Q : Exit → Act → World → Prop} {md : Region.Mode} {S : World → Prop} {z : Nat} {i : Nat} {oi : Oper} {v : Value} {n : Nat} {listed : Array Bool} {a : Act} {w : World} (m : Nat) (hi : ops.toList[i]? = some oi)
    (hs : Region.noSelect ops = true) (hf : Region.free md ops listed i = true) (hr : (Region.ready md ops listed).contains i = true) (hz : okD md ops z i listed (depD md ops i m) = true)
    (hQ : ∀ c a w, Q (.panic c) (a.put oi.dst v) w → Q (.panic c) a w) (hy : YieldsIf P ops S oi v a) (hS : S w)
    (h : wpAnyZ P md ops Q S z n (listed.setIfInBounds i true) (a.put oi.dst v) w) : wpAnyZ P md ops Q S z (n + 1) listed a w := by
  unfold okD at hz
  rw [Bool.and_eq_true] at hz
  have h1 := List.all_eq_true.1 hz.1
  have h2 := List.all_eq_true.1 hz.2
  refine wpAnyZ_firstD (at_list hi) (Region.noSelect_spec hs) hQ (depD md ops i m) (fun j hj hs => ?_) (fun k hk => ?_) n listed a w (fun k hk => ?_) (Region.free_spec (at_list hi) hf) (by simpa using hr) hy hS h
  · have := h1 j (List.mem_range.2 hs)
    rw [decide_eq_false (by omega), Bool.false_or] at this
    simpa using this
  · have := h2 k hk
    rw [Bool.and_eq_true, Bool.or_eq_true] at this
    rcases this.2 with h | h
    · exact .inl h
    · obtain ⟨m, hm, e⟩ := List.any_eq_true.1 h
      exact .inr ⟨m, hm, e⟩
  · have := h2 k hk
    rw [Bool.and_eq_true] at this
    simpa using this.1
set_option maxRecDepth 100000 in
set_option maxHeartbeats 6400000 in
theorem refused_memo_a (xb : Nat) (c : Nat → Value) (x : StM) (v : ViewM) (j : JobM) (nm tx : ByteArray) (n : Int) (hn : n < 0) (hJ : JB j) (hB : VB v) (w : World) (hst : XSt xb c x w) (hv : VAt xb c v w) (hj : JAt xb c j w) :
    Calls Tryz.prog 59 #[.pointer (some ⟨xb, 0, none⟩), stepV ⟨4, nm, tx, n⟩] w (RefPost j v ⟨4, nm, tx, n⟩ w) := by
  have hlt := hst.lt
  obtain ⟨w1, hw1⟩ : ∃ w1, w.alloc (.cells #[.int .i64 4, .string nm, .string tx, .int .i64 n] 80 (0, 0)) = w1 := ⟨_, rfl⟩
  have hk1 : w1.heap[w.heap.size]? = some (.cells #[.int .i64 4, .string nm, .string tx, .int .i64 n] 80 (0, 0)) := by rw [← hw1]; exact hp_new rfl
  have hb1 : Below w.heap.size w w1 := by rw [← hw1]; exact (Below.refl _ w).alloc (Nat.le_refl _) _
  have hz1 : w.heap.size < w1.heap.size := (Array.getElem?_eq_some_iff.1 hk1).1
  have s0 : w1.cell? ⟨w.heap.size, 0, none⟩ = some (.int .i64 4) := cell_of_blk hk1 0
  have s1 : w1.cell? ⟨w.heap.size, 1, none⟩ = some (.string nm) := cell_of_blk hk1 1
  have s3 : w1.cell? ⟨w.heap.size, 3, none⟩ = some (.int .i64 n) := cell_of_blk hk1 3
  have HW1 := Lib.hid hw1
  have HK1 := Lib.hid hk1
  have HST := Lib.hid (hst.grow hb1)
  have HB1 := Lib.hid hb1
  have hb1' := hb1.mono (Nat.le_of_lt hlt)
  obtain ⟨co, cc, hco⟩ := hj.caches
  obtain ⟨ko, kc, hko⟩ := hv.keys.form
  have hkr := (hv.below hb1').keys
  rw [hko] at hkr
  have HV := Lib.hid hkr
  have HCO := Lib.hid hco
  have HKO := Lib.hid hko
  have hnc := hJ.caches
  have hnk := hB.keys
  have d0 : decide ((0 : Int) ≤ n) = false := decide_eq_false (by omega)
  have HDR : Hid (Below w1.heap.size w1 w1.drew) := (Below.refl _ _).drew
  have HS : Hid (∀ W' : World, Below w1.heap.size w1 W' → W'.cell? ⟨w.heap.size, 3, none⟩ = some (.int .i64 n) ∧ W'.cell? ⟨xb, 27, none⟩ = some (.slice co j.ncach cc)) := fun W' hb => ⟨cell_of_blk ((hb.block _ hz1).trans HK1.out) 3, by rw [← HCO.out]; exact (HST.out.grow hb).cell (by decide)⟩
  have HS2 : Hid (∀ W' : World, Below w1.heap.size w1 W' → W'.cell? ⟨w.heap.size, 3, none⟩ = some (.int .i64 n) ∧ W'.cell? ⟨xb, 43, none⟩ = some (.slice ko v.keys.length kc)) := fun W' hb => ⟨cell_of_blk ((hb.block _ hz1).trans HK1.out) 3, by rw [← HKO.out]; exact (HST.out.grow hb).cell (by decide)⟩
  have HRF : Hid (refusedF (declF j.inputs) j v ⟨4, nm, tx, n⟩ = classF false 6 + classF true 7) := by
    unfold Hid refusedF
    dsimp only
    rw [if_neg (by decide), if_neg (by decide), if_neg (by decide), if_pos rfl]
    rw [decide_eq_false (show ¬ (0 ≤ n ∧ n < (j.ncach : Int)) by omega), Bool.false_and]
    rfl
  clear hst hv hB hJ hj hk1 hb1 hb1' hw1 hkr hco hko hnc hnk
  go_enter Tryz.func59, Tryz.ntmps59
  go_upto_region 1 with fail
  rw [HW1.out]
  clear HW1
  go_upto_region 21 with fail
  refine wp_region_Z (S := fun W' : World => W'.cell? ⟨w.heap.size, 3, none⟩ = some (.int .i64 n) ∧ W'.cell? ⟨xb, 27, none⟩ = some (.slice co j.ncach cc)) 14 (by kernel_rfl) (HS.out _ HDR.out) (fun hHeld => ?_)
  refine wpAnyZ_takeE 16 (i := 0) (v := ?_) rfl (by kernel_rfl) (by kernel_rfl) (by kernel_rfl) (by kernel_rfl) (fun _ _ _ h => h) (Or.inl ⟨by rfl, ?_⟩) (by assumption) ?_
  rotate_left
  · (intro w hSw; (try dsimp only at hSw); go_simp; try with_reducible rfl)
  try simp only [Act.put, zA, zB, zC]
  refine wpAnyZ_takeE 16 (i := 1) (v := ?_) rfl (by kernel_rfl) (by kernel_rfl) (by kernel_rfl) (by kernel_rfl) (fun _ _ _ h => h) (Or.inl ⟨by rfl, ?_⟩) (by assumption) ?_
  rotate_left
  · (intro w hSw; (try dsimp only at hSw); go_simp; try with_reducible rfl)
  try simp only [Act.put, zA, zB, zC]
  refine wpAnyZ_takeE 16 (i := 2) (v := ?_) rfl (by kernel_rfl) (by kernel_rfl) (by kernel_rfl) (by kernel_rfl) (fun _ _ _ h => h) (Or.inl ⟨by rfl, ?_⟩) (by assumption) ?_
  rotate_left
  · (intro w hSw; (try dsimp only at hSw); go_simp; try with_reducible rfl)
  try simp only [Act.put, zA, zB, zC]
  refine wpAnyZ_takeE 16 (i := 3) (v := ?_) rfl (by kernel_rfl) (by kernel_rfl) (by kernel_rfl) (by kernel_rfl) (fun _ _ _ h => h) (Or.inl ⟨by rfl, ?_⟩) (by assumption) ?_
  rotate_left
  · (intro w hSw; (try dsimp only at hSw); go_simp; try with_reducible rfl)
  try simp only [Act.put, zA, zB, zC]
  refine wpAnyZ_takeE 16 (i := 4) (v := undef) rfl (by kernel_rfl) (by kernel_rfl) (by kernel_rfl) (by kernel_rfl) (fun _ _ _ h => h) (Or.inr ⟨by rfl, rfl⟩) (by assumption) ?_
  try simp only [Act.put, zA, zB, zC]
  refine wpAnyZ_takeE 16 (i := 5) (v := undef) rfl (by kernel_rfl) (by kernel_rfl) (by kernel_rfl) (by kernel_rfl) (fun _ _ _ h => h) (Or.inr ⟨by rfl, rfl⟩) (by assumption) ?_
  try simp only [Act.put, zA, zB, zC]
  refine wpAnyZ_takeE 16 (i := 6) (v := undef) rfl (by kernel_rfl) (by kernel_rfl) (by kernel_rfl) (by kernel_rfl) (fun _ _ _ h => h) (Or.inr ⟨by rfl, rfl⟩) (by assumption) ?_
  try simp only [Act.put, zA, zB, zC]
  refine wpAnyZ_takeE 16 (i := 7) (v := undef) rfl (by kernel_rfl) (by kernel_rfl) (by kernel_rfl) (by kernel_rfl) (fun _ _ _ h => h) (Or.inr ⟨by rfl, rfl⟩) (by assumption) ?_
  try simp only [Act.put, zA, zB, zC]
  refine wpAnyZ_takeE 16 (i := 8) (v := undef) rfl (by kernel_rfl) (by kernel_rfl) (by kernel_rfl) (by kernel_rfl) (fun _ _ _ h => h) (Or.inr ⟨by rfl, rfl⟩) (by assumption) ?_
  try simp only [Act.put, zA, zB, zC]
  refine wpAnyZ_takeE 16 (i := 9) (v := undef) rfl (by kernel_rfl) (by kernel_rfl) (by kernel_rfl) (by kernel_rfl) (fun _ _ _ h => h) (Or.inr ⟨by rfl, rfl⟩) (by assumption) ?_
  try simp only [Act.put, zA, zB, zC]
  refine wpAnyZ_takeE 16 (i := 10) (v := undef) rfl (by kernel_rfl) (by kernel_rfl) (by kernel_rfl) (by kernel_rfl) (fun _ _ _ h => h) (Or.inr ⟨by rfl, rfl⟩) (by assumption) ?_
  try simp only [Act.put, zA, zB, zC]
  refine wpAnyZ_takeE 16 (i := 11) (v := undef) rfl (by kernel_rfl) (by kernel_rfl) (by kernel_rfl) (by kernel_rfl) (fun _ _ _ h => h) (Or.inr ⟨by rfl, rfl⟩) (by assumption) ?_
  try simp only [Act.put, zA, zB, zC]
  refine wpAnyZ_takeE 16 (i := 12) (v := undef) rfl (by kernel_rfl) (by kernel_rfl) (by kernel_rfl) (by kernel_rfl) (fun _ _ _ h => h) (Or.inr ⟨by rfl, rfl⟩) (by assumption) ?_
  try simp only [Act.put, zA, zB, zC]
  refine wpAnyZ_takeE 16 (i := 13) (v := ?_) rfl (by kernel_rfl) (by kernel_rfl) (by kernel_rfl) (by kernel_rfl) (fun _ _ _ h => h) (Or.inl ⟨by rfl, ?_⟩) (by assumption) ?_
  rotate_left
  · (intro w hSw; (try dsimp only at hSw); go_simp; try with_reducible rfl)
  try simp only [Act.put, zA, zB, zC]
  refine wpAnyZ_oneL (i := 14) (by kernel_rfl) rfl (fun K hK => ?_)
  go_simp
  refine hK.out _ _ (fun h => absurd h (by decide)) (fun _ => ?_)
  clear hK K
  try simp only [Act.put, zA, zB, zC]
  refine wpAnyZ_done (by kernel_rfl) ?_ _
  clear hHeld
  have HDR2 : Hid (Below w1.heap.size w1 w1.drew.drew) := HDR.out.drew
  go_upto_region 22 with fail
  refine wp_region_Z (S := fun W' : World => W'.cell? ⟨w.heap.size, 3, none⟩ = some (.int .i64 n) ∧ W'.cell? ⟨xb, 43, none⟩ = some (.slice ko v.keys.length kc)) 28 (by kernel_rfl) (HS2.out _ HDR2.out) (fun hHeld => ?_)
  refine wpAnyZ_takeE 16 (i := 0) (v := ?_) rfl (by kernel_rfl) (by kernel_rfl) (by kernel_rfl) (by kernel_rfl) (fun _ _ _ h => h) (Or.inl ⟨by rfl, ?_⟩) (by assumption) ?_
  rotate_left
  · (intro w hSw; (try dsimp only at hSw); go_simp; try with_reducible rfl)
  try simp only [Act.put, zA, zB, zC]
  refine wpAnyZ_takeE 16 (i := 2) (v := ?_) rfl (by kernel_rfl) (by kernel_rfl) (by kernel_rfl) (by kernel_rfl) (fun _ _ _ h => h) (Or.inl ⟨by rfl, ?_⟩) (by assumption) ?_
  rotate_left
  · (intro w hSw; (try dsimp only at hSw); go_simp; try with_reducible rfl)
  try simp only [Act.put, zA, zB, zC]
  refine wpAnyZ_oneL (i := 1) (by kernel_rfl) rfl (fun K hK => ?_)
  go_simp
  go_at_call 82
  refine (class_any _ 6 _).mono ?_
  rintro e w6 ⟨rfl, hw6⟩
  have HB6 : Hid (Below w1.heap.size w1 w6) := by unfold Hid; rw [hw6]; exact HDR2.out
  clear hw6
  refine hK.out _ _ (fun _ => HS2.out _ HB6.out) (fun hHeld => ?_)
  replace hHeld := hHeld (by decide)
  clear hK K
  try simp only [Act.put, zA, zB, zC]
  refine wpAnyZ_takeE 16 (i := 3) (v := ?_) rfl (by kernel_rfl) (by kernel_rfl) (by kernel_rfl) (by kernel_rfl) (fun _ _ _ h => h) (Or.inl ⟨by rfl, ?_⟩) (by assumption) ?_
  rotate_left
  · (intro w hSw; (try dsimp only at hSw); go_simp; try with_reducible rfl)
  try simp only [Act.put, zA, zB, zC]
  refine wpAnyZ_takeE 16 (i := 4) (v := undef) rfl (by kernel_rfl) (by kernel_rfl) (by kernel_rfl) (by kernel_rfl) (fun _ _ _ h => h) (Or.inr ⟨by rfl, rfl⟩) (by assumption) ?_
  try simp only [Act.put, zA, zB, zC]
  refine wpAnyZ_takeE 16 (i := 5) (v := undef) rfl (by kernel_rfl) (by kernel_rfl) (by kernel_rfl) (by kernel_rfl) (fun _ _ _ h => h) (Or.inr ⟨by rfl, rfl⟩) (by assumption) ?_
  try simp only [Act.put, zA, zB, zC]
  refine wpAnyZ_takeE 16 (i := 6) (v := undef) rfl (by kernel_rfl) (by kernel_rfl) (by kernel_rfl) (by kernel_rfl) (fun _ _ _ h => h) (Or.inr ⟨by rfl, rfl⟩) (by assumption) ?_
  try simp only [Act.put, zA, zB, zC]
  refine wpAnyZ_takeE 16 (i := 7) (v := undef) rfl (by kernel_rfl) (by kernel_rfl) (by kernel_rfl) (by kernel_rfl) (fun _ _ _ h => h) (Or.inr ⟨by rfl, rfl⟩) (by assumption) ?_
  try simp only [Act.put, zA, zB, zC]
  refine wpAnyZ_takeE 16 (i := 8) (v := undef) rfl (by kernel_rfl) (by kernel_rfl) (by kernel_rfl) (by kernel_rfl) (fun _ _ _ h => h) (Or.inr ⟨by rfl, rfl⟩) (by assumption) ?_
  try simp only [Act.put, zA, zB, zC]
  refine wpAnyZ_takeE 16 (i := 9) (v := undef) rfl (by kernel_rfl) (by kernel_rfl) (by kernel_rfl) (by kernel_rfl) (fun _ _ _ h => h) (Or.inr ⟨by rfl, rfl⟩) (by assumption) ?_
  try simp only [Act.put, zA, zB, zC]
  refine wpAnyZ_takeE 16 (i := 10) (v := undef) rfl (by kernel_rfl) (by kernel_rfl) (by kernel_rfl) (by kernel_rfl) (fun _ _ _ h => h) (Or.inr ⟨by rfl, rfl⟩) (by assumption) ?_
  try simp only [Act.put, zA, zB, zC]
  refine wpAnyZ_takeE 16 (i := 11) (v := undef) rfl (by kernel_rfl) (by kernel_rfl) (by kernel_rfl) (by kernel_rfl) (fun _ _ _ h => h) (Or.inr ⟨by rfl, rfl⟩) (by assumption) ?_
  try simp only [Act.put, zA, zB, zC]
  refine wpAnyZ_takeE 16 (i := 12) (v := undef) rfl (by kernel_rfl) (by kernel_rfl) (by kernel_rfl) (by kernel_rfl) (fun _ _ _ h => h) (Or.inr ⟨by rfl, rfl⟩) (by assumption) ?_
  try simp only [Act.put, zA, zB, zC]
  refine wpAnyZ_takeE 16 (i := 13) (v := undef) rfl (by kernel_rfl) (by kernel_rfl) (by kernel_rfl) (by kernel_rfl) (fun _ _ _ h => h) (Or.inr ⟨by rfl, rfl⟩) (by assumption) ?_
  try simp only [Act.put, zA, zB, zC]
  refine wpAnyZ_takeE 16 (i := 14) (v := undef) rfl (by kernel_rfl) (by kernel_rfl) (by kernel_rfl) (by kernel_rfl) (fun _ _ _ h => h) (Or.inr ⟨by rfl, rfl⟩) (by assumption) ?_
  try simp only [Act.put, zA, zB, zC]
  refine wpAnyZ_takeE 16 (i := 15) (v := undef) rfl (by kernel_rfl) (by kernel_rfl) (by kernel_rfl) (by kernel_rfl) (fun _ _ _ h => h) (Or.inr ⟨by rfl, rfl⟩) (by assumption) ?_
  try simp only [Act.put, zA, zB, zC]
  refine wpAnyZ_takeE 16 (i := 16) (v := undef) rfl (by kernel_rfl) (by kernel_rfl) (by kernel_rfl) (by kernel_rfl) (fun _ _ _ h => h) (Or.inr ⟨by rfl, rfl⟩) (by assumption) ?_
  try simp only [Act.put, zA, zB, zC]
  refine wpAnyZ_takeE 16 (i := 17) (v := undef) rfl (by kernel_rfl) (by kernel_rfl) (by kernel_rfl) (by kernel_rfl) (fun _ _ _ h => h) (Or.inr ⟨by rfl, rfl⟩) (by assumption) ?_
  try simp only [Act.put, zA, zB, zC]
  refine wpAnyZ_takeE 16 (i := 18) (v := undef) rfl (by kernel_rfl) (by kernel_rfl) (by kernel_rfl) (by kernel_rfl) (fun _ _ _ h => h) (Or.inr ⟨by rfl, rfl⟩) (by assumption) ?_
  try simp only [Act.put, zA, zB, zC]
  refine wpAnyZ_takeE 16 (i := 19) (v := undef) rfl (by kernel_rfl) (by kernel_rfl) (by kernel_rfl) (by kernel_rfl) (fun _ _ _ h => h) (Or.inr ⟨by rfl, rfl⟩) (by assumption) ?_
  try simp only [Act.put, zA, zB, zC]
  refine wpAnyZ_takeE 16 (i := 20) (v := undef) rfl (by kernel_rfl) (by kernel_rfl) (by kernel_rfl) (by kernel_rfl) (fun _ _ _ h => h) (Or.inr ⟨by rfl, rfl⟩) (by assumption) ?_
  try simp only [Act.put, zA, zB, zC]
  refine wpAnyZ_takeE 16 (i := 21) (v := undef) rfl (by kernel_rfl) (by kernel_rfl) (by kernel_rfl) (by kernel_rfl) (fun _ _ _ h => h) (Or.inr ⟨by rfl, rfl⟩) (by assumption) ?_
  try simp only [Act.put, zA, zB, zC]
  refine wpAnyZ_takeE 16 (i := 22) (v := undef) rfl (by kernel_rfl) (by kernel_rfl) (by kernel_rfl) (by kernel_rfl) (fun _ _ _ h => h) (Or.inr ⟨by rfl, rfl⟩) (by assumption) ?_
  try simp only [Act.put, zA, zB, zC]
  refine wpAnyZ_takeE 16 (i := 23) (v := undef) rfl (by kernel_rfl) (by kernel_rfl) (by kernel_rfl) (by kernel_rfl) (fun _ _ _ h => h) (Or.inr ⟨by rfl, rfl⟩) (by assumption) ?_
  try simp only [Act.put, zA, zB, zC]
  refine wpAnyZ_takeE 16 (i := 24) (v := undef) rfl (by kernel_rfl) (by kernel_rfl) (by kernel_rfl) (by kernel_rfl) (fun _ _ _ h => h) (Or.inr ⟨by rfl, rfl⟩) (by assumption) ?_
  try simp only [Act.put, zA, zB, zC]
  refine wpAnyZ_takeE 16 (i := 25) (v := ?_) rfl (by kernel_rfl) (by kernel_rfl) (by kernel_rfl) (by kernel_rfl) (fun _ _ _ h => h) (Or.inl ⟨by rfl, ?_⟩) (by assumption) ?_
  rotate_left
  · (intro w hSw; (try dsimp only at hSw); go_simp; try with_reducible rfl)
  try simp only [Act.put, zA, zB, zC]
  have hHeld0 := hHeld
  refine wpAnyZ_oneL (i := 26) (by kernel_rfl) rfl (fun K hK => ?_)
  go_simp
  go_at_call 83
  refine (refin_any _ _).mono ?_
  rintro e w7 ⟨rfl, hw7⟩
  have HB7 : Hid (Below w1.heap.size w1 w7) := by unfold Hid; rw [hw7]; exact HB6.out
  clear hw7
  refine hK.out _ _ (fun _ => HS2.out _ HB7.out) (fun hHeld => ?_)
  replace hHeld := hHeld (by decide)
  clear hK K
  try simp only [Act.put, zA, zB, zC]
  refine wpAnyZ_takeE 16 (i := 27) (v := ?_) rfl (by kernel_rfl) (by kernel_rfl) (by kernel_rfl) (by kernel_rfl) (fun _ _ _ h => h) (Or.inl ⟨by rfl, ?_⟩) (by assumption) ?_
  rotate_left
  · (intro w hSw; (try dsimp only at hSw); go_simp; try with_reducible rfl)
  try simp only [Act.put, zA, zB, zC]
  refine wpAnyZ_oneL (i := 28) (by kernel_rfl) rfl (fun K hK => ?_)
  go_simp
  refine hK.out _ _ (fun h => absurd h (by decide)) (fun _ => ?_)
  clear hK K
  try simp only [Act.put, zA, zB, zC]
  refine wpAnyZ_done (by kernel_rfl) ?_ _
  clear hHeld
  have HB9 : Hid (Below w.heap.size w w7) := HB1.out.trans (HB7.out.mono HB1.out.size)
  go_wp2_with fail
  go_ret
  refine ⟨?_, HB9.out⟩
  rw [HRF.out]
  exact congrArg (fun z => Ending.returned (.int .i64 z)) (wrap_cls2 _ _)
set_option maxRecDepth 100000 in
set_option maxHeartbeats 6400000 in
theorem refused_memo_b (xb : Nat) (c : Nat → Value) (x : StM) (v : ViewM) (j : JobM) (nm tx : ByteArray) (n : Int) (hn : 0 ≤ n) (hn2 : ¬ n < (j.ncach : Int)) (hJ : JB j) (hB : VB v) (w : World) (hst : XSt xb c x w) (hv : VAt xb c v w) (hj : JAt xb c j w) :
    Calls Tryz.prog 59 #[.pointer (some ⟨xb, 0, none⟩), stepV ⟨4, nm, tx, n⟩] w (RefPost j v ⟨4, nm, tx, n⟩ w) := by
  have hlt := hst.lt
  obtain ⟨w1, hw1⟩ : ∃ w1, w.alloc (.cells #[.int .i64 4, .string nm, .string tx, .int .i64 n] 80 (0, 0)) = w1 := ⟨_, rfl⟩
  have hk1 : w1.heap[w.heap.size]? = some (.cells #[.int .i64 4, .string nm, .string tx, .int .i64 n] 80 (0, 0)) := by rw [← hw1]; exact hp_new rfl
  have hb1 : Below w.heap.size w w1 := by rw [← hw1]; exact (Below.refl _ w).alloc (Nat.le_refl _) _
  have hz1 : w.heap.size < w1.heap.size := (Array.getElem?_eq_some_iff.1 hk1).1
  have s0 : w1.cell? ⟨w.heap.size, 0, none⟩ = some (.int .i64 4) := cell_of_blk hk1 0
  have s1 : w1.cell? ⟨w.heap.size, 1, none⟩ = some (.string nm) := cell_of_blk hk1 1
  have s3 : w1.cell? ⟨w.heap.size, 3, none⟩ = some (.int .i64 n) := cell_of_blk hk1 3
  have HW1 := Lib.hid hw1
  have HK1 := Lib.hid hk1
  have HST := Lib.hid (hst.grow hb1)
  have HB1 := Lib.hid hb1
  have hb1' := hb1.mono (Nat.le_of_lt hlt)
  obtain ⟨co, cc, hco⟩ := hj.caches
  obtain ⟨ko, kc, hko⟩ := hv.keys.form
  have hkr := (hv.below hb1').keys
  rw [hko] at hkr
  have HV := Lib.hid hkr
  have HCO := Lib.hid hco
  have HKO := Lib.hid hko
  have hnc := hJ.caches
  have hnk := hB.keys
  have HDR : Hid (Below w1.heap.size w1 w1.drew) := (Below.refl _ _).drew
  have HS : Hid (∀ W' : World, Below w1.heap.size w1 W' → W'.cell? ⟨w.heap.size, 3, none⟩ = some (.int .i64 n) ∧ W'.cell? ⟨xb, 27, none⟩ = some (.slice co j.ncach cc)) := fun W' hb => ⟨cell_of_blk ((hb.block _ hz1).trans HK1.out) 3, by rw [← HCO.out]; exact (HST.out.grow hb).cell (by decide)⟩
  have HS2 : Hid (∀ W' : World, Below w1.heap.size w1 W' → W'.cell? ⟨w.heap.size, 3, none⟩ = some (.int .i64 n) ∧ W'.cell? ⟨xb, 43, none⟩ = some (.slice ko v.keys.length kc)) := fun W' hb => ⟨cell_of_blk ((hb.block _ hz1).trans HK1.out) 3, by rw [← HKO.out]; exact (HST.out.grow hb).cell (by decide)⟩
  have HRF : Hid (refusedF (declF j.inputs) j v ⟨4, nm, tx, n⟩ = classF false 6 + classF true 7) := by
    unfold Hid refusedF
    dsimp only
    rw [if_neg (by decide), if_neg (by decide), if_neg (by decide), if_pos rfl]
    rw [decide_eq_false (show ¬ (0 ≤ n ∧ n < (j.ncach : Int)) by omega), Bool.false_and]
    rfl
  clear hst hv hB hJ hj hk1 hb1 hb1' hw1 hkr hco hko hnc hnk
  go_enter Tryz.func59, Tryz.ntmps59
  go_upto_region 1 with fail
  rw [HW1.out]
  clear HW1
  go_upto_region 21 with fail
  refine wp_region_Z (S := fun W' : World => W'.cell? ⟨w.heap.size, 3, none⟩ = some (.int .i64 n) ∧ W'.cell? ⟨xb, 27, none⟩ = some (.slice co j.ncach cc)) 14 (by kernel_rfl) (HS.out _ HDR.out) (fun hHeld => ?_)
  refine wpAnyZ_takeE 16 (i := 0) (v := ?_) rfl (by kernel_rfl) (by kernel_rfl) (by kernel_rfl) (by kernel_rfl) (fun _ _ _ h => h) (Or.inl ⟨by rfl, ?_⟩) (by assumption) ?_
  rotate_left
  · (intro w hSw; (try dsimp only at hSw); go_simp; try with_reducible rfl)
  try simp only [Act.put, zA, zB, zC]
  refine wpAnyZ_takeE 16 (i := 1) (v := ?_) rfl (by kernel_rfl) (by kernel_rfl) (by kernel_rfl) (by kernel_rfl) (fun _ _ _ h => h) (Or.inl ⟨by rfl, ?_⟩) (by assumption) ?_
  rotate_left
  · (intro w hSw; (try dsimp only at hSw); go_simp; try with_reducible rfl)
  try simp only [Act.put, zA, zB, zC]
  refine wpAnyZ_takeE 16 (i := 2) (v := ?_) rfl (by kernel_rfl) (by kernel_rfl) (by kernel_rfl) (by kernel_rfl) (fun _ _ _ h => h) (Or.inl ⟨by rfl, ?_⟩) (by assumption) ?_
  rotate_left
  · (intro w hSw; (try dsimp only at hSw); go_simp; try with_reducible rfl)
  try simp only [Act.put, zA, zB, zC]
  refine wpAnyZ_takeE 16 (i := 3) (v := ?_) rfl (by kernel_rfl) (by kernel_rfl) (by kernel_rfl) (by kernel_rfl) (fun _ _ _ h => h) (Or.inl ⟨by rfl, ?_⟩) (by assumption) ?_
  rotate_left
  · (intro w hSw; (try dsimp only at hSw); go_simp; try with_reducible rfl)
  try simp only [Act.put, zA, zB, zC]
  refine wpAnyZ_takeE 16 (i := 4) (v := ?_) rfl (by kernel_rfl) (by kernel_rfl) (by kernel_rfl) (by kernel_rfl) (fun _ _ _ h => h) (Or.inl ⟨by rfl, ?_⟩) (by assumption) ?_
  rotate_left
  · (intro w hSw; (try dsimp only at hSw); go_simp; try with_reducible rfl)
  try simp only [Act.put, zA, zB, zC]
  refine wpAnyZ_takeE 16 (i := 5) (v := ?_) rfl (by kernel_rfl) (by kernel_rfl) (by kernel_rfl) (by kernel_rfl) (fun _ _ _ h => h) (Or.inl ⟨by rfl, ?_⟩) (by assumption) ?_
  rotate_left
  · (intro w hSw; (try dsimp only at hSw); go_simp; try with_reducible rfl)
  try simp only [Act.put, zA, zB, zC]
  refine wpAnyZ_takeE 16 (i := 6) (v := ?_) rfl (by kernel_rfl) (by kernel_rfl) (by kernel_rfl) (by kernel_rfl) (fun _ _ _ h => h) (Or.inl ⟨by rfl, ?_⟩) (by assumption) ?_
  rotate_left
  · (intro w hSw; (try dsimp only at hSw); go_simp; try with_reducible rfl)
  try simp only [Act.put, zA, zB, zC]
  refine wpAnyZ_takeE 16 (i := 7) (v := ?_) rfl (by kernel_rfl) (by kernel_rfl) (by kernel_rfl) (by kernel_rfl) (fun _ _ _ h => h) (Or.inl ⟨by rfl, ?_⟩) (by assumption) ?_
  rotate_left
  · (intro w hSw; (try dsimp only at hSw); go_simp; try with_reducible rfl)
  try simp only [Act.put, zA, zB, zC]
  refine wpAnyZ_takeE 16 (i := 8) (v := ?_) rfl (by kernel_rfl) (by kernel_rfl) (by kernel_rfl) (by kernel_rfl) (fun _ _ _ h => h) (Or.inl ⟨by rfl, ?_⟩) (by assumption) ?_
  rotate_left
  · (intro w hSw; (try dsimp only at hSw); go_simp; try with_reducible rfl)
  try simp only [Act.put, zA, zB, zC]
  refine wpAnyZ_takeE 16 (i := 9) (v := ?_) rfl (by kernel_rfl) (by kernel_rfl) (by kernel_rfl) (by kernel_rfl) (fun _ _ _ h => h) (Or.inl ⟨by rfl, ?_⟩) (by assumption) ?_
  rotate_left
  · (intro w hSw; (try dsimp only at hSw); go_simp; try with_reducible rfl)
  try simp only [Act.put, zA, zB, zC]
  refine wpAnyZ_takeE 16 (i := 10) (v := ?_) rfl (by kernel_rfl) (by kernel_rfl) (by kernel_rfl) (by kernel_rfl) (fun _ _ _ h => h) (Or.inl ⟨by rfl, ?_⟩) (by assumption) ?_
  rotate_left
  · (intro w hSw; (try dsimp only at hSw); go_simp; try with_reducible rfl)
  try simp only [Act.put, zA, zB, zC]
  refine wpAnyZ_takeE 16 (i := 11) (v := ?_) rfl (by kernel_rfl) (by kernel_rfl) (by kernel_rfl) (by kernel_rfl) (fun _ _ _ h => h) (Or.inl ⟨by rfl, ?_⟩) (by assumption) ?_
  rotate_left
  · (intro w hSw; (try dsimp only at hSw); go_simp; try with_reducible rfl)
  try simp only [Act.put, zA, zB, zC]
  refine wpAnyZ_takeE 16 (i := 12) (v := ?_) rfl (by kernel_rfl) (by kernel_rfl) (by kernel_rfl) (by kernel_rfl) (fun _ _ _ h => h) (Or.inl ⟨by rfl, ?_⟩) (by assumption) ?_
  rotate_left
  · (intro w hSw; (try dsimp only at hSw); go_simp; try with_reducible rfl)
  try simp only [Act.put, zA, zB, zC]
  refine wpAnyZ_takeE 16 (i := 13) (v := ?_) rfl (by kernel_rfl) (by kernel_rfl) (by kernel_rfl) (by kernel_rfl) (fun _ _ _ h => h) (Or.inl ⟨by rfl, ?_⟩) (by assumption) ?_
  rotate_left
  · (intro w hSw; (try dsimp only at hSw); go_simp; try with_reducible rfl)
  try simp only [Act.put, zA, zB, zC]
  refine wpAnyZ_oneL (i := 14) (by kernel_rfl) rfl (fun K hK => ?_)
  go_simp
  refine hK.out _ _ (fun h => absurd h (by decide)) (fun _ => ?_)
  clear hK K
  try simp only [Act.put, zA, zB, zC]
  refine wpAnyZ_done (by kernel_rfl) ?_ _
  clear hHeld
  have HDR2 : Hid (Below w1.heap.size w1 w1.drew.drew) := HDR.out.drew
  go_upto_region 22 with fail
  refine wp_region_Z (S := fun W' : World => W'.cell? ⟨w.heap.size, 3, none⟩ = some (.int .i64 n) ∧ W'.cell? ⟨xb, 43, none⟩ = some (.slice ko v.keys.length kc)) 28 (by kernel_rfl) (HS2.out _ HDR2.out) (fun hHeld => ?_)
  refine wpAnyZ_takeE 16 (i := 0) (v := ?_) rfl (by kernel_rfl) (by kernel_rfl) (by kernel_rfl) (by kernel_rfl) (fun _ _ _ h => h) (Or.inl ⟨by rfl, ?_⟩) (by assumption) ?_
  rotate_left
  · (intro w hSw; (try dsimp only at hSw); go_simp; try with_reducible rfl)
  try simp only [Act.put, zA, zB, zC]
  refine wpAnyZ_takeE 16 (i := 2) (v := ?_) rfl (by kernel_rfl) (by kernel_rfl) (by kernel_rfl) (by kernel_rfl) (fun _ _ _ h => h) (Or.inl ⟨by rfl, ?_⟩) (by assumption) ?_
  rotate_left
  · (intro w hSw; (try dsimp only at hSw); go_simp; try with_reducible rfl)
  try simp only [Act.put, zA, zB, zC]
  refine wpAnyZ_oneL (i := 1) (by kernel_rfl) rfl (fun K hK => ?_)
  go_simp
  go_at_call 82
  refine (class_any _ 6 _).mono ?_
  rintro e w6 ⟨rfl, hw6⟩
  have HB6 : Hid (Below w1.heap.size w1 w6) := by unfold Hid; rw [hw6]; exact HDR2.out
  clear hw6
  refine hK.out _ _ (fun _ => HS2.out _ HB6.out) (fun hHeld => ?_)
  replace hHeld := hHeld (by decide)
  clear hK K
  try simp only [Act.put, zA, zB, zC]
  refine wpAnyZ_takeE 16 (i := 3) (v := ?_) rfl (by kernel_rfl) (by kernel_rfl) (by kernel_rfl) (by kernel_rfl) (fun _ _ _ h => h) (Or.inl ⟨by rfl, ?_⟩) (by assumption) ?_
  rotate_left
  · (intro w hSw; (try dsimp only at hSw); go_simp; try with_reducible rfl)
  try simp only [Act.put, zA, zB, zC]
  refine wpAnyZ_takeE 16 (i := 4) (v := undef) rfl (by kernel_rfl) (by kernel_rfl) (by kernel_rfl) (by kernel_rfl) (fun _ _ _ h => h) (Or.inr ⟨by rfl, rfl⟩) (by assumption) ?_
  try simp only [Act.put, zA, zB, zC]
  refine wpAnyZ_takeE 16 (i := 5) (v := undef) rfl (by kernel_rfl) (by kernel_rfl) (by kernel_rfl) (by kernel_rfl) (fun _ _ _ h => h) (Or.inr ⟨by rfl, rfl⟩) (by assumption) ?_
  try simp only [Act.put, zA, zB, zC]
  refine wpAnyZ_takeE 16 (i := 6) (v := undef) rfl (by kernel_rfl) (by kernel_rfl) (by kernel_rfl) (by kernel_rfl) (fun _ _ _ h => h) (Or.inr ⟨by rfl, rfl⟩) (by assumption) ?_
  try simp only [Act.put, zA, zB, zC]
  refine wpAnyZ_takeE 16 (i := 7) (v := undef) rfl (by kernel_rfl) (by kernel_rfl) (by kernel_rfl) (by kernel_rfl) (fun _ _ _ h => h) (Or.inr ⟨by rfl, rfl⟩) (by assumption) ?_
  try simp only [Act.put, zA, zB, zC]
  refine wpAnyZ_takeE 16 (i := 8) (v := undef) rfl (by kernel_rfl) (by kernel_rfl) (by kernel_rfl) (by kernel_rfl) (fun _ _ _ h => h) (Or.inr ⟨by rfl, rfl⟩) (by assumption) ?_
  try simp only [Act.put, zA, zB, zC]
  refine wpAnyZ_takeE 16 (i := 9) (v := undef) rfl (by kernel_rfl) (by kernel_rfl) (by kernel_rfl) (by kernel_rfl) (fun _ _ _ h => h) (Or.inr ⟨by rfl, rfl⟩) (by assumption) ?_
  try simp only [Act.put, zA, zB, zC]
  refine wpAnyZ_takeE 16 (i := 10) (v := undef) rfl (by kernel_rfl) (by kernel_rfl) (by kernel_rfl) (by kernel_rfl) (fun _ _ _ h => h) (Or.inr ⟨by rfl, rfl⟩) (by assumption) ?_
  try simp only [Act.put, zA, zB, zC]
  refine wpAnyZ_takeE 16 (i := 11) (v := undef) rfl (by kernel_rfl) (by kernel_rfl) (by kernel_rfl) (by kernel_rfl) (fun _ _ _ h => h) (Or.inr ⟨by rfl, rfl⟩) (by assumption) ?_
  try simp only [Act.put, zA, zB, zC]
  refine wpAnyZ_takeE 16 (i := 12) (v := undef) rfl (by kernel_rfl) (by kernel_rfl) (by kernel_rfl) (by kernel_rfl) (fun _ _ _ h => h) (Or.inr ⟨by rfl, rfl⟩) (by assumption) ?_
  try simp only [Act.put, zA, zB, zC]
  refine wpAnyZ_takeE 16 (i := 13) (v := undef) rfl (by kernel_rfl) (by kernel_rfl) (by kernel_rfl) (by kernel_rfl) (fun _ _ _ h => h) (Or.inr ⟨by rfl, rfl⟩) (by assumption) ?_
  try simp only [Act.put, zA, zB, zC]
  refine wpAnyZ_takeE 16 (i := 14) (v := undef) rfl (by kernel_rfl) (by kernel_rfl) (by kernel_rfl) (by kernel_rfl) (fun _ _ _ h => h) (Or.inr ⟨by rfl, rfl⟩) (by assumption) ?_
  try simp only [Act.put, zA, zB, zC]
  refine wpAnyZ_takeE 16 (i := 15) (v := undef) rfl (by kernel_rfl) (by kernel_rfl) (by kernel_rfl) (by kernel_rfl) (fun _ _ _ h => h) (Or.inr ⟨by rfl, rfl⟩) (by assumption) ?_
  try simp only [Act.put, zA, zB, zC]
  refine wpAnyZ_takeE 16 (i := 16) (v := undef) rfl (by kernel_rfl) (by kernel_rfl) (by kernel_rfl) (by kernel_rfl) (fun _ _ _ h => h) (Or.inr ⟨by rfl, rfl⟩) (by assumption) ?_
  try simp only [Act.put, zA, zB, zC]
  refine wpAnyZ_takeE 16 (i := 17) (v := undef) rfl (by kernel_rfl) (by kernel_rfl) (by kernel_rfl) (by kernel_rfl) (fun _ _ _ h => h) (Or.inr ⟨by rfl, rfl⟩) (by assumption) ?_
  try simp only [Act.put, zA, zB, zC]
  refine wpAnyZ_takeE 16 (i := 18) (v := undef) rfl (by kernel_rfl) (by kernel_rfl) (by kernel_rfl) (by kernel_rfl) (fun _ _ _ h => h) (Or.inr ⟨by rfl, rfl⟩) (by assumption) ?_
  try simp only [Act.put, zA, zB, zC]
  refine wpAnyZ_takeE 16 (i := 19) (v := undef) rfl (by kernel_rfl) (by kernel_rfl) (by kernel_rfl) (by kernel_rfl) (fun _ _ _ h => h) (Or.inr ⟨by rfl, rfl⟩) (by assumption) ?_
  try simp only [Act.put, zA, zB, zC]
  refine wpAnyZ_takeE 16 (i := 20) (v := undef) rfl (by kernel_rfl) (by kernel_rfl) (by kernel_rfl) (by kernel_rfl) (fun _ _ _ h => h) (Or.inr ⟨by rfl, rfl⟩) (by assumption) ?_
  try simp only [Act.put, zA, zB, zC]
  refine wpAnyZ_takeE 16 (i := 21) (v := undef) rfl (by kernel_rfl) (by kernel_rfl) (by kernel_rfl) (by kernel_rfl) (fun _ _ _ h => h) (Or.inr ⟨by rfl, rfl⟩) (by assumption) ?_
  try simp only [Act.put, zA, zB, zC]
  refine wpAnyZ_takeE 16 (i := 22) (v := undef) rfl (by kernel_rfl) (by kernel_rfl) (by kernel_rfl) (by kernel_rfl) (fun _ _ _ h => h) (Or.inr ⟨by rfl, rfl⟩) (by assumption) ?_
  try simp only [Act.put, zA, zB, zC]
  refine wpAnyZ_takeE 16 (i := 23) (v := undef) rfl (by kernel_rfl) (by kernel_rfl) (by kernel_rfl) (by kernel_rfl) (fun _ _ _ h => h) (Or.inr ⟨by rfl, rfl⟩) (by assumption) ?_
  try simp only [Act.put, zA, zB, zC]
  refine wpAnyZ_takeE 16 (i := 24) (v := undef) rfl (by kernel_rfl) (by kernel_rfl) (by kernel_rfl) (by kernel_rfl) (fun _ _ _ h => h) (Or.inr ⟨by rfl, rfl⟩) (by assumption) ?_
  try simp only [Act.put, zA, zB, zC]
  refine wpAnyZ_takeE 16 (i := 25) (v := ?_) rfl (by kernel_rfl) (by kernel_rfl) (by kernel_rfl) (by kernel_rfl) (fun _ _ _ h => h) (Or.inl ⟨by rfl, ?_⟩) (by assumption) ?_
  rotate_left
  · (intro w hSw; (try dsimp only at hSw); go_simp; try with_reducible rfl)
  try simp only [Act.put, zA, zB, zC]
  have hHeld0 := hHeld
  refine wpAnyZ_oneL (i := 26) (by kernel_rfl) rfl (fun K hK => ?_)
  go_simp
  go_at_call 83
  refine (refin_any _ _).mono ?_
  rintro e w7 ⟨rfl, hw7⟩
  have HB7 : Hid (Below w1.heap.size w1 w7) := by unfold Hid; rw [hw7]; exact HB6.out
  clear hw7
  refine hK.out _ _ (fun _ => HS2.out _ HB7.out) (fun hHeld => ?_)
  replace hHeld := hHeld (by decide)
  clear hK K
  try simp only [Act.put, zA, zB, zC]
  refine wpAnyZ_takeE 16 (i := 27) (v := ?_) rfl (by kernel_rfl) (by kernel_rfl) (by kernel_rfl) (by kernel_rfl) (fun _ _ _ h => h) (Or.inl ⟨by rfl, ?_⟩) (by assumption) ?_
  rotate_left
  · (intro w hSw; (try dsimp only at hSw); go_simp; try with_reducible rfl)
  try simp only [Act.put, zA, zB, zC]
  refine wpAnyZ_oneL (i := 28) (by kernel_rfl) rfl (fun K hK => ?_)
  go_simp
  refine hK.out _ _ (fun h => absurd h (by decide)) (fun _ => ?_)
  clear hK K
  try simp only [Act.put, zA, zB, zC]
  refine wpAnyZ_done (by kernel_rfl) ?_ _
  clear hHeld
  have HB9 : Hid (Below w.heap.size w w7) := HB1.out.trans (HB7.out.mono HB1.out.size)
  go_wp2_with fail
  go_ret
  refine ⟨?_, HB9.out⟩
  rw [HRF.out]
  exact congrArg (fun z => Ending.returned (.int .i64 z)) (wrap_cls2 _ _)
set_option maxRecDepth 100000 in
set_option maxHeartbeats 6400000 in
theorem refused_memo_c (xb : Nat) (c : Nat → Value) (x : StM) (v : ViewM) (j : JobM) (nm tx : ByteArray) (k : Nat) (hn2 : k < j.ncach) (hn3 : v.keys.length ≤ k) (hJ : JB j) (hB : VB v) (w : World) (hst : XSt xb c x w) (hv : VAt xb c v w) (hj : JAt xb c j w) :
    Calls Tryz.prog 59 #[.pointer (some ⟨xb, 0, none⟩), stepV ⟨4, nm, tx, (k : Nat)⟩] w (RefPost j v ⟨4, nm, tx, (k : Nat)⟩ w) := by
  have hlt := hst.lt
  obtain ⟨w1, hw1⟩ : ∃ w1, w.alloc (.cells #[.int .i64 4, .string nm, .string tx, .int .i64 (k : Nat)] 80 (0, 0)) = w1 := ⟨_, rfl⟩
  have hk1 : w1.heap[w.heap.size]? = some (.cells #[.int .i64 4, .string nm, .string tx, .int .i64 (k : Nat)] 80 (0, 0)) := by rw [← hw1]; exact hp_new rfl
  have hb1 : Below w.heap.size w w1 := by rw [← hw1]; exact (Below.refl _ w).alloc (Nat.le_refl _) _
  have hz1 : w.heap.size < w1.heap.size := (Array.getElem?_eq_some_iff.1 hk1).1
  have s0 : w1.cell? ⟨w.heap.size, 0, none⟩ = some (.int .i64 4) := cell_of_blk hk1 0
  have s1 : w1.cell? ⟨w.heap.size, 1, none⟩ = some (.string nm) := cell_of_blk hk1 1
  have s3 : w1.cell? ⟨w.heap.size, 3, none⟩ = some (.int .i64 (k : Nat)) := cell_of_blk hk1 3
  have HW1 := Lib.hid hw1
  have HK1 := Lib.hid hk1
  have HST := Lib.hid (hst.grow hb1)
  have HB1 := Lib.hid hb1
  have hb1' := hb1.mono (Nat.le_of_lt hlt)
  obtain ⟨co, cc, hco⟩ := hj.caches
  obtain ⟨ko, kc, hko⟩ := hv.keys.form
  have hkr := (hv.below hb1').keys
  rw [hko] at hkr
  have HV := Lib.hid hkr
  have HCO := Lib.hid hco
  have HKO := Lib.hid hko
  have hnc := hJ.caches
  have hnk := hB.keys
  have d0 : (0 : Int) ≤ (k : Int) := by omega
  have d1 : (k : Int) < (j.ncach : Int) := by omega
  have d2 : (v.keys.length : Int) ≤ (k : Int) := by omega
  have HDR : Hid (Below w1.heap.size w1 w1.drew) := (Below.refl _ _).drew
  have HS : Hid (∀ W' : World, Below w1.heap.size w1 W' → W'.cell? ⟨w.heap.size, 3, none⟩ = some (.int .i64 (k : Nat)) ∧ W'.cell? ⟨xb, 27, none⟩ = some (.slice co j.ncach cc)) := fun W' hb => ⟨cell_of_blk ((hb.block _ hz1).trans HK1.out) 3, by rw [← HCO.out]; exact (HST.out.grow hb).cell (by decide)⟩
  have HS2 : Hid (∀ W' : World, Below w1.heap.size w1 W' → W'.cell? ⟨w.heap.size, 3, none⟩ = some (.int .i64 (k : Nat)) ∧ W'.cell? ⟨xb, 43, none⟩ = some (.slice ko v.keys.length kc)) := fun W' hb => ⟨cell_of_blk ((hb.block _ hz1).trans HK1.out) 3, by rw [← HKO.out]; exact (HST.out.grow hb).cell (by decide)⟩
  have HRF : Hid (refusedF (declF j.inputs) j v ⟨4, nm, tx, (k : Nat)⟩ = classF true 6 + classF false 7) := by
    unfold Hid refusedF
    dsimp only
    rw [if_neg (by decide), if_neg (by decide), if_neg (by decide), if_pos rfl]
    rw [decide_eq_true (show (0 : Int) ≤ (k : Nat) ∧ (k : Int) < (j.ncach : Int) by omega), decide_eq_true (show (v.keys.length : Int) ≤ (k : Nat) by omega)]
    rfl
  clear hst hv hB hJ hj hk1 hb1 hb1' hw1 hkr hco hko hnc hnk
  go_enter Tryz.func59, Tryz.ntmps59
  go_upto_region 1 with fail
  rw [HW1.out]
  clear HW1
  go_upto_region 21 with fail
  refine wp_region_Z (S := fun W' : World => W'.cell? ⟨w.heap.size, 3, none⟩ = some (.int .i64 (k : Nat)) ∧ W'.cell? ⟨xb, 27, none⟩ = some (.slice co j.ncach cc)) 14 (by kernel_rfl) (HS.out _ HDR.out) (fun hHeld => ?_)
  refine wpAnyZ_takeE 16 (i := 0) (v := ?_) rfl (by kernel_rfl) (by kernel_rfl) (by kernel_rfl) (by kernel_rfl) (fun _ _ _ h => h) (Or.inl ⟨by rfl, ?_⟩) (by assumption) ?_
  rotate_left
  · (intro w hSw; (try dsimp only at hSw); go_simp; try with_reducible rfl)
  try simp only [Act.put, zA, zB, zC]
  refine wpAnyZ_takeE 16 (i := 1) (v := ?_) rfl (by kernel_rfl) (by kernel_rfl) (by kernel_rfl) (by kernel_rfl) (fun _ _ _ h => h) (Or.inl ⟨by rfl, ?_⟩) (by assumption) ?_
  rotate_left
  · (intro w hSw; (try dsimp only at hSw); go_simp; try with_reducible rfl)
  try simp only [Act.put, zA, zB, zC]
  refine wpAnyZ_takeE 16 (i := 2) (v := ?_) rfl (by kernel_rfl) (by kernel_rfl) (by kernel_rfl) (by kernel_rfl) (fun _ _ _ h => h) (Or.inl ⟨by rfl, ?_⟩) (by assumption) ?_
  rotate_left
  · (intro w hSw; (try dsimp only at hSw); go_simp; try with_reducible rfl)
  try simp only [Act.put, zA, zB, zC]
  refine wpAnyZ_takeE 16 (i := 3) (v := ?_) rfl (by kernel_rfl) (by kernel_rfl) (by kernel_rfl) (by kernel_rfl) (fun _ _ _ h => h) (Or.inl ⟨by rfl, ?_⟩) (by assumption) ?_
  rotate_left
  · (intro w hSw; (try dsimp only at hSw); go_simp; try with_reducible rfl)
  try simp only [Act.put, zA, zB, zC]
  refine wpAnyZ_takeE 16 (i := 4) (v := ?_) rfl (by kernel_rfl) (by kernel_rfl) (by kernel_rfl) (by kernel_rfl) (fun _ _ _ h => h) (Or.inl ⟨by rfl, ?_⟩) (by assumption) ?_
  rotate_left
  · (intro w hSw; (try dsimp only at hSw); go_simp; try with_reducible rfl)
  try simp only [Act.put, zA, zB, zC]
  refine wpAnyZ_takeE 16 (i := 5) (v := ?_) rfl (by kernel_rfl) (by kernel_rfl) (by kernel_rfl) (by kernel_rfl) (fun _ _ _ h => h) (Or.inl ⟨by rfl, ?_⟩) (by assumption) ?_
  rotate_left
  · (intro w hSw; (try dsimp only at hSw); go_simp; try with_reducible rfl)
  try simp only [Act.put, zA, zB, zC]
  refine wpAnyZ_takeE 16 (i := 6) (v := ?_) rfl (by kernel_rfl) (by kernel_rfl) (by kernel_rfl) (by kernel_rfl) (fun _ _ _ h => h) (Or.inl ⟨by rfl, ?_⟩) (by assumption) ?_
  rotate_left
  · (intro w hSw; (try dsimp only at hSw); go_simp; try with_reducible rfl)
  try simp only [Act.put, zA, zB, zC]
  refine wpAnyZ_takeE 16 (i := 7) (v := ?_) rfl (by kernel_rfl) (by kernel_rfl) (by kernel_rfl) (by kernel_rfl) (fun _ _ _ h => h) (Or.inl ⟨by rfl, ?_⟩) (by assumption) ?_
  rotate_left
  · (intro w hSw; (try dsimp only at hSw); go_simp; try with_reducible rfl)
  try simp only [Act.put, zA, zB, zC]
  refine wpAnyZ_takeE 16 (i := 8) (v := ?_) rfl (by kernel_rfl) (by kernel_rfl) (by kernel_rfl) (by kernel_rfl) (fun _ _ _ h => h) (Or.inl ⟨by rfl, ?_⟩) (by assumption) ?_
  rotate_left
  · (intro w hSw; (try dsimp only at hSw); go_simp; try with_reducible rfl)
  try simp only [Act.put, zA, zB, zC]
  refine wpAnyZ_takeE 16 (i := 9) (v := ?_) rfl (by kernel_rfl) (by kernel_rfl) (by kernel_rfl) (by kernel_rfl) (fun _ _ _ h => h) (Or.inl ⟨by rfl, ?_⟩) (by assumption) ?_
  rotate_left
  · (intro w hSw; (try dsimp only at hSw); go_simp; try with_reducible rfl)
  try simp only [Act.put, zA, zB, zC]
  refine wpAnyZ_takeE 16 (i := 10) (v := ?_) rfl (by kernel_rfl) (by kernel_rfl) (by kernel_rfl) (by kernel_rfl) (fun _ _ _ h => h) (Or.inl ⟨by rfl, ?_⟩) (by assumption) ?_
  rotate_left
  · (intro w hSw; (try dsimp only at hSw); go_simp; try with_reducible rfl)
  try simp only [Act.put, zA, zB, zC]
  refine wpAnyZ_takeE 16 (i := 11) (v := ?_) rfl (by kernel_rfl) (by kernel_rfl) (by kernel_rfl) (by kernel_rfl) (fun _ _ _ h => h) (Or.inl ⟨by rfl, ?_⟩) (by assumption) ?_
  rotate_left
  · (intro w hSw; (try dsimp only at hSw); go_simp; try with_reducible rfl)
  try simp only [Act.put, zA, zB, zC]
  refine wpAnyZ_takeE 16 (i := 12) (v := ?_) rfl (by kernel_rfl) (by kernel_rfl) (by kernel_rfl) (by kernel_rfl) (fun _ _ _ h => h) (Or.inl ⟨by rfl, ?_⟩) (by assumption) ?_
  rotate_left
  · (intro w hSw; (try dsimp only at hSw); go_simp; try with_reducible rfl)
  try simp only [Act.put, zA, zB, zC]
  refine wpAnyZ_takeE 16 (i := 13) (v := ?_) rfl (by kernel_rfl) (by kernel_rfl) (by kernel_rfl) (by kernel_rfl) (fun _ _ _ h => h) (Or.inl ⟨by rfl, ?_⟩) (by assumption) ?_
  rotate_left
  · (intro w hSw; (try dsimp only at hSw); go_simp; try with_reducible rfl)
  try simp only [Act.put, zA, zB, zC]
  refine wpAnyZ_oneL (i := 14) (by kernel_rfl) rfl (fun K hK => ?_)
  go_simp
  refine hK.out _ _ (fun h => absurd h (by decide)) (fun _ => ?_)
  clear hK K
  try simp only [Act.put, zA, zB, zC]
  refine wpAnyZ_done (by kernel_rfl) ?_ _
  clear hHeld
  have HDR2 : Hid (Below w1.heap.size w1 w1.drew.drew) := HDR.out.drew
  go_upto_region 22 with fail
  refine wp_region_Z (S := fun W' : World => W'.cell? ⟨w.heap.size, 3, none⟩ = some (.int .i64 (k : Nat)) ∧ W'.cell? ⟨xb, 43, none⟩ = some (.slice ko v.keys.length kc)) 28 (by kernel_rfl) (HS2.out _ HDR2.out) (fun hHeld => ?_)
  refine wpAnyZ_takeE 16 (i := 0) (v := ?_) rfl (by kernel_rfl) (by kernel_rfl) (by kernel_rfl) (by kernel_rfl) (fun _ _ _ h => h) (Or.inl ⟨by rfl, ?_⟩) (by assumption) ?_
  rotate_left
  · (intro w hSw; (try dsimp only at hSw); go_simp; try with_reducible rfl)
  try simp only [Act.put, zA, zB, zC]
  refine wpAnyZ_takeE 16 (i := 2) (v := ?_) rfl (by kernel_rfl) (by kernel_rfl) (by kernel_rfl) (by kernel_rfl) (fun _ _ _ h => h) (Or.inl ⟨by rfl, ?_⟩) (by assumption) ?_
  rotate_left
  · (intro w hSw; (try dsimp only at hSw); go_simp; try with_reducible rfl)
  try simp only [Act.put, zA, zB, zC]
  refine wpAnyZ_oneL (i := 1) (by kernel_rfl) rfl (fun K hK => ?_)
  go_simp
  go_at_call 82
  refine (class_any _ 6 _).mono ?_
  rintro e w6 ⟨rfl, hw6⟩
  have HB6 : Hid (Below w1.heap.size w1 w6) := by unfold Hid; rw [hw6]; exact HDR2.out
  clear hw6
  refine hK.out _ _ (fun _ => HS2.out _ HB6.out) (fun hHeld => ?_)
  replace hHeld := hHeld (by decide)
  clear hK K
  try simp only [Act.put, zA, zB, zC]
  refine wpAnyZ_takeE 16 (i := 3) (v := ?_) rfl (by kernel_rfl) (by kernel_rfl) (by kernel_rfl) (by kernel_rfl) (fun _ _ _ h => h) (Or.inl ⟨by rfl, ?_⟩) (by assumption) ?_
  rotate_left
  · (intro w hSw; (try dsimp only at hSw); go_simp; try with_reducible rfl)
  try simp only [Act.put, zA, zB, zC]
  refine wpAnyZ_takeE 16 (i := 4) (v := ?_) rfl (by kernel_rfl) (by kernel_rfl) (by kernel_rfl) (by kernel_rfl) (fun _ _ _ h => h) (Or.inl ⟨by rfl, ?_⟩) (by assumption) ?_
  rotate_left
  · (intro w hSw; (try dsimp only at hSw); go_simp; try with_reducible rfl)
  try simp only [Act.put, zA, zB, zC]
  refine wpAnyZ_takeE 16 (i := 5) (v := ?_) rfl (by kernel_rfl) (by kernel_rfl) (by kernel_rfl) (by kernel_rfl) (fun _ _ _ h => h) (Or.inl ⟨by rfl, ?_⟩) (by assumption) ?_
  rotate_left
  · (intro w hSw; (try dsimp only at hSw); go_simp; try with_reducible rfl)
  try simp only [Act.put, zA, zB, zC]
  refine wpAnyZ_takeE 16 (i := 6) (v := ?_) rfl (by kernel_rfl) (by kernel_rfl) (by kernel_rfl) (by kernel_rfl) (fun _ _ _ h => h) (Or.inl ⟨by rfl, ?_⟩) (by assumption) ?_
  rotate_left
  · (intro w hSw; (try dsimp only at hSw); go_simp; try with_reducible rfl)
  try simp only [Act.put, zA, zB, zC]
  refine wpAnyZ_takeE 16 (i := 7) (v := ?_) rfl (by kernel_rfl) (by kernel_rfl) (by kernel_rfl) (by kernel_rfl) (fun _ _ _ h => h) (Or.inl ⟨by rfl, ?_⟩) (by assumption) ?_
  rotate_left
  · (intro w hSw; (try dsimp only at hSw); go_simp; try with_reducible rfl)
  try simp only [Act.put, zA, zB, zC]
  refine wpAnyZ_takeE 16 (i := 8) (v := ?_) rfl (by kernel_rfl) (by kernel_rfl) (by kernel_rfl) (by kernel_rfl) (fun _ _ _ h => h) (Or.inl ⟨by rfl, ?_⟩) (by assumption) ?_
  rotate_left
  · (intro w hSw; (try dsimp only at hSw); go_simp; try with_reducible rfl)
  try simp only [Act.put, zA, zB, zC]
  refine wpAnyZ_takeE 16 (i := 9) (v := ?_) rfl (by kernel_rfl) (by kernel_rfl) (by kernel_rfl) (by kernel_rfl) (fun _ _ _ h => h) (Or.inl ⟨by rfl, ?_⟩) (by assumption) ?_
  rotate_left
  · (intro w hSw; (try dsimp only at hSw); go_simp; try with_reducible rfl)
  try simp only [Act.put, zA, zB, zC]
  refine wpAnyZ_takeE 16 (i := 10) (v := ?_) rfl (by kernel_rfl) (by kernel_rfl) (by kernel_rfl) (by kernel_rfl) (fun _ _ _ h => h) (Or.inl ⟨by rfl, ?_⟩) (by assumption) ?_
  rotate_left
  · (intro w hSw; (try dsimp only at hSw); go_simp; try with_reducible rfl)
  try simp only [Act.put, zA, zB, zC]
  refine wpAnyZ_takeE 16 (i := 11) (v := ?_) rfl (by kernel_rfl) (by kernel_rfl) (by kernel_rfl) (by kernel_rfl) (fun _ _ _ h => h) (Or.inl ⟨by rfl, ?_⟩) (by assumption) ?_
  rotate_left
  · (intro w hSw; (try dsimp only at hSw); go_simp; try with_reducible rfl)
  try simp only [Act.put, zA, zB, zC]
  refine wpAnyZ_takeE 16 (i := 12) (v := ?_) rfl (by kernel_rfl) (by kernel_rfl) (by kernel_rfl) (by kernel_rfl) (fun _ _ _ h => h) (Or.inl ⟨by rfl, ?_⟩) (by assumption) ?_
  rotate_left
  · (intro w hSw; (try dsimp only at hSw); go_simp; try with_reducible rfl)
  try simp only [Act.put, zA, zB, zC]
  refine wpAnyZ_takeE 16 (i := 13) (v := ?_) rfl (by kernel_rfl) (by kernel_rfl) (by kernel_rfl) (by kernel_rfl) (fun _ _ _ h => h) (Or.inl ⟨by rfl, ?_⟩) (by assumption) ?_
  rotate_left
  · (intro w hSw; (try dsimp only at hSw); go_simp; try with_reducible rfl)
  try simp only [Act.put, zA, zB, zC]
  refine wpAnyZ_takeE 16 (i := 14) (v := undef) rfl (by kernel_rfl) (by kernel_rfl) (by kernel_rfl) (by kernel_rfl) (fun _ _ _ h => h) (Or.inr ⟨by rfl, rfl⟩) (by assumption) ?_
  try simp only [Act.put, zA, zB, zC]
  refine wpAnyZ_takeE 16 (i := 15) (v := undef) rfl (by kernel_rfl) (by kernel_rfl) (by kernel_rfl) (by kernel_rfl) (fun _ _ _ h => h) (Or.inr ⟨by rfl, rfl⟩) (by assumption) ?_
  try simp only [Act.put, zA, zB, zC]
  refine wpAnyZ_takeE 16 (i := 16) (v := undef) rfl (by kernel_rfl) (by kernel_rfl) (by kernel_rfl) (by kernel_rfl) (fun _ _ _ h => h) (Or.inr ⟨by rfl, rfl⟩) (by assumption) ?_
  try simp only [Act.put, zA, zB, zC]
  refine wpAnyZ_takeE 16 (i := 17) (v := undef) rfl (by kernel_rfl) (by kernel_rfl) (by kernel_rfl) (by kernel_rfl) (fun _ _ _ h => h) (Or.inr ⟨by rfl, rfl⟩) (by assumption) ?_
  try simp only [Act.put, zA, zB, zC]
  refine wpAnyZ_takeE 16 (i := 18) (v := undef) rfl (by kernel_rfl) (by kernel_rfl) (by kernel_rfl) (by kernel_rfl) (fun _ _ _ h => h) (Or.inr ⟨by rfl, rfl⟩) (by assumption) ?_
  try simp only [Act.put, zA, zB, zC]
  refine wpAnyZ_takeE 16 (i := 19) (v := undef) rfl (by kernel_rfl) (by kernel_rfl) (by kernel_rfl) (by kernel_rfl) (fun _ _ _ h => h) (Or.inr ⟨by rfl, rfl⟩) (by assumption) ?_
  try simp only [Act.put, zA, zB, zC]
  refine wpAnyZ_takeE 16 (i := 20) (v := undef) rfl (by kernel_rfl) (by kernel_rfl) (by kernel_rfl) (by kernel_rfl) (fun _ _ _ h => h) (Or.inr ⟨by rfl, rfl⟩) (by assumption) ?_
  try simp only [Act.put, zA, zB, zC]
  refine wpAnyZ_takeE 16 (i := 21) (v := undef) rfl (by kernel_rfl) (by kernel_rfl) (by kernel_rfl) (by kernel_rfl) (fun _ _ _ h => h) (Or.inr ⟨by rfl, rfl⟩) (by assumption) ?_
  try simp only [Act.put, zA, zB, zC]
  refine wpAnyZ_takeE 16 (i := 22) (v := undef) rfl (by kernel_rfl) (by kernel_rfl) (by kernel_rfl) (by kernel_rfl) (fun _ _ _ h => h) (Or.inr ⟨by rfl, rfl⟩) (by assumption) ?_
  try simp only [Act.put, zA, zB, zC]
  refine wpAnyZ_takeE 16 (i := 23) (v := undef) rfl (by kernel_rfl) (by kernel_rfl) (by kernel_rfl) (by kernel_rfl) (fun _ _ _ h => h) (Or.inr ⟨by rfl, rfl⟩) (by assumption) ?_
  try simp only [Act.put, zA, zB, zC]
  refine wpAnyZ_takeE 16 (i := 24) (v := ?_) rfl (by kernel_rfl) (by kernel_rfl) (by kernel_rfl) (by kernel_rfl) (fun _ _ _ h => h) (Or.inl ⟨by rfl, ?_⟩) (by assumption) ?_
  rotate_left
  · (intro w hSw; (try dsimp only at hSw); go_simp; try with_reducible rfl)
  try simp only [Act.put, zA, zB, zC]
  refine wpAnyZ_takeE 16 (i := 25) (v := ?_) rfl (by kernel_rfl) (by kernel_rfl) (by kernel_rfl) (by kernel_rfl) (fun _ _ _ h => h) (Or.inl ⟨by rfl, ?_⟩) (by assumption) ?_
  rotate_left
  · (intro w hSw; (try dsimp only at hSw); go_simp; try with_reducible rfl)
  try simp only [Act.put, zA, zB, zC]
  have hHeld0 := hHeld
  refine wpAnyZ_oneL (i := 26) (by kernel_rfl) rfl (fun K hK => ?_)
  go_simp
  go_at_call 83
  refine (refin_any _ _).mono ?_
  rintro e w7 ⟨rfl, hw7⟩
  have HB7 : Hid (Below w1.heap.size w1 w7) := by unfold Hid; rw [hw7]; exact HB6.out
  clear hw7
  refine hK.out _ _ (fun _ => HS2.out _ HB7.out) (fun hHeld => ?_)
  replace hHeld := hHeld (by decide)
  clear hK K
  try simp only [Act.put, zA, zB, zC]
  refine wpAnyZ_takeE 16 (i := 27) (v := ?_) rfl (by kernel_rfl) (by kernel_rfl) (by kernel_rfl) (by kernel_rfl) (fun _ _ _ h => h) (Or.inl ⟨by rfl, ?_⟩) (by assumption) ?_
  rotate_left
  · (intro w hSw; (try dsimp only at hSw); go_simp; try with_reducible rfl)
  try simp only [Act.put, zA, zB, zC]
  refine wpAnyZ_oneL (i := 28) (by kernel_rfl) rfl (fun K hK => ?_)
  go_simp
  refine hK.out _ _ (fun h => absurd h (by decide)) (fun _ => ?_)
  clear hK K
  try simp only [Act.put, zA, zB, zC]
  refine wpAnyZ_done (by kernel_rfl) ?_ _
  clear hHeld
  have HB9 : Hid (Below w.heap.size w w7) := HB1.out.trans (HB7.out.mono HB1.out.size)
  go_wp2_with fail
  go_ret
  refine ⟨?_, HB9.out⟩
  rw [HRF.out]
  exact congrArg (fun z => Ending.returned (.int .i64 z)) (wrap_cls2 _ _)
set_option maxRecDepth 100000 in
set_option maxHeartbeats 6400000 in
theorem refused_memo_d (xb : Nat) (c : Nat → Value) (x : StM) (v : ViewM) (j : JobM) (nm tx : ByteArray) (k : Nat) (hn2 : k < j.ncach) (hn3 : k < v.keys.length) (hJ : JB j) (hB : VB v) (w : World) (hst : XSt xb c x w) (hv : VAt xb c v w) (hj : JAt xb c j w) :
    Calls Tryz.prog 59 #[.pointer (some ⟨xb, 0, none⟩), stepV ⟨4, nm, tx, (k : Nat)⟩] w (RefPost j v ⟨4, nm, tx, (k : Nat)⟩ w) := by
  have hlt := hst.lt
  obtain ⟨w1, hw1⟩ : ∃ w1, w.alloc (.cells #[.int .i64 4, .string nm, .string tx, .int .i64 (k : Nat)] 80 (0, 0)) = w1 := ⟨_, rfl⟩
  have hk1 : w1.heap[w.heap.size]? = some (.cells #[.int .i64 4, .string nm, .string tx, .int .i64 (k : Nat)] 80 (0, 0)) := by rw [← hw1]; exact hp_new rfl
  have hb1 : Below w.heap.size w w1 := by rw [← hw1]; exact (Below.refl _ w).alloc (Nat.le_refl _) _
  have hz1 : w.heap.size < w1.heap.size := (Array.getElem?_eq_some_iff.1 hk1).1
  have s0 : w1.cell? ⟨w.heap.size, 0, none⟩ = some (.int .i64 4) := cell_of_blk hk1 0
  have s1 : w1.cell? ⟨w.heap.size, 1, none⟩ = some (.string nm) := cell_of_blk hk1 1
  have s3 : w1.cell? ⟨w.heap.size, 3, none⟩ = some (.int .i64 (k : Nat)) := cell_of_blk hk1 3
  have HW1 := Lib.hid hw1
  have HK1 := Lib.hid hk1
  have HST := Lib.hid (hst.grow hb1)
  have HB1 := Lib.hid hb1
  have hb1' := hb1.mono (Nat.le_of_lt hlt)
  obtain ⟨co, cc, hco⟩ := hj.caches
  obtain ⟨ko, kc, hko⟩ := hv.keys.form
  have hkr := (hv.below hb1').keys
  rw [hko] at hkr
  have HV := Lib.hid hkr
  have HCO := Lib.hid hco
  have HKO := Lib.hid hko
  have hnc := hJ.caches
  have hnk := hB.keys
  obtain ⟨kb, koff, rfl, hkb, y0⟩ := strs_at hkr hn3
  have hgk : v.keys.getD k ByteArray.empty = v.keys[k] := by rw [List.getD, List.getElem?_eq_getElem hn3]; rfl
  obtain ⟨key, hkey⟩ : ∃ key, v.keys[k] = key := ⟨_, rfl⟩
  rw [hkey] at y0 hgk
  have d0 : (0 : Int) ≤ (k : Int) := by omega
  have d1 : (k : Int) < (j.ncach : Int) := by omega
  have d2 : (k : Int) < (v.keys.length : Int) := by omega
  have d3 : decide (v.keys.length ≤ k) = false := decide_eq_false (by omega)
  have HDR : Hid (Below w1.heap.size w1 w1.drew) := (Below.refl _ _).drew
  have HS : Hid (∀ W' : World, Below w1.heap.size w1 W' → W'.cell? ⟨w.heap.size, 3, none⟩ = some (.int .i64 (k : Nat)) ∧ W'.cell? ⟨xb, 27, none⟩ = some (.slice co j.ncach cc)) := fun W' hb => ⟨cell_of_blk ((hb.block _ hz1).trans HK1.out) 3, by rw [← HCO.out]; exact (HST.out.grow hb).cell (by decide)⟩
  have HS2 : Hid (∀ W' : World, Below w1.heap.size w1 W' → W'.cell? ⟨w.heap.size, 3, none⟩ = some (.int .i64 (k : Nat)) ∧ W'.cell? ⟨xb, 43, none⟩ = some (.slice (some ⟨kb, koff, none⟩) v.keys.length kc) ∧ W'.cell? ⟨kb, koff + k, none⟩ = some (.string key)) := fun W' hb => ⟨cell_of_blk ((hb.block _ hz1).trans HK1.out) 3, by rw [← HKO.out]; exact (HST.out.grow hb).cell (by decide), (hb.cell (p := ⟨kb, koff + k, none⟩) hkb).trans y0⟩
  have HRF : Hid (refusedF (declF j.inputs) j v ⟨4, nm, tx, (k : Nat)⟩ = classF true 6 + classF (!key.toList.isEmpty) 7) := by
    unfold Hid refusedF
    dsimp only
    rw [if_neg (by decide), if_neg (by decide), if_neg (by decide), if_pos rfl]
    rw [decide_eq_true (show (0 : Int) ≤ (k : Nat) ∧ (k : Int) < (j.ncach : Int) by omega), decide_eq_false (show ¬ (v.keys.length : Int) ≤ (k : Nat) by omega), show ((k : Nat) : Int).toNat = k from rfl, hgk, ba_empty]
    rfl
  clear hst hv hB hJ hj hk1 hb1 hb1' hw1 hkr hco hko hnc hnk y0 hgk hkey
  go_enter Tryz.func59, Tryz.ntmps59
  go_upto_region 1 with fail
  rw [HW1.out]
  clear HW1
  go_upto_region 21 with fail
  refine wp_region_Z (S := fun W' : World => W'.cell? ⟨w.heap.size, 3, none⟩ = some (.int .i64 (k : Nat)) ∧ W'.cell? ⟨xb, 27, none⟩ = some (.slice co j.ncach cc)) 14 (by kernel_rfl) (HS.out _ HDR.out) (fun hHeld => ?_)
  refine wpAnyZ_takeE 16 (i := 0) (v := ?_) rfl (by kernel_rfl) (by kernel_rfl) (by kernel_rfl) (by kernel_rfl) (fun _ _ _ h => h) (Or.inl ⟨by rfl, ?_⟩) (by assumption) ?_
  rotate_left
  · (intro w hSw; (try dsimp only at hSw); go_simp; try with_reducible rfl)
  try simp only [Act.put, zA, zB, zC]
  refine wpAnyZ_takeE 16 (i := 1) (v := ?_) rfl (by kernel_rfl) (by kernel_rfl) (by kernel_rfl) (by kernel_rfl) (fun _ _ _ h => h) (Or.inl ⟨by rfl, ?_⟩) (by assumption) ?_
  rotate_left
  · (intro w hSw; (try dsimp only at hSw); go_simp; try with_reducible rfl)
  try simp only [Act.put, zA, zB, zC]
  refine wpAnyZ_takeE 16 (i := 2) (v := ?_) rfl (by kernel_rfl) (by kernel_rfl) (by kernel_rfl) (by kernel_rfl) (fun _ _ _ h => h) (Or.inl ⟨by rfl, ?_⟩) (by assumption) ?_
  rotate_left
  · (intro w hSw; (try dsimp only at hSw); go_simp; try with_reducible rfl)
  try simp only [Act.put, zA, zB, zC]
  refine wpAnyZ_takeE 16 (i := 3) (v := ?_) rfl (by kernel_rfl) (by kernel_rfl) (by kernel_rfl) (by kernel_rfl) (fun _ _ _ h => h) (Or.inl ⟨by rfl, ?_⟩) (by assumption) ?_
  rotate_left
  · (intro w hSw; (try dsimp only at hSw); go_simp; try with_reducible rfl)
  try simp only [Act.put, zA, zB, zC]
  refine wpAnyZ_takeE 16 (i := 4) (v := ?_) rfl (by kernel_rfl) (by kernel_rfl) (by kernel_rfl) (by kernel_rfl) (fun _ _ _ h => h) (Or.inl ⟨by rfl, ?_⟩) (by assumption) ?_
  rotate_left
  · (intro w hSw; (try dsimp only at hSw); go_simp; try with_reducible rfl)
  try simp only [Act.put, zA, zB, zC]
  refine wpAnyZ_takeE 16 (i := 5) (v := ?_) rfl (by kernel_rfl) (by kernel_rfl) (by kernel_rfl) (by kernel_rfl) (fun _ _ _ h => h) (Or.inl ⟨by rfl, ?_⟩) (by assumption) ?_
  rotate_left
  · (intro w hSw; (try dsimp only at hSw); go_simp; try with_reducible rfl)
  try simp only [Act.put, zA, zB, zC]
  refine wpAnyZ_takeE 16 (i := 6) (v := ?_) rfl (by kernel_rfl) (by kernel_rfl) (by kernel_rfl) (by kernel_rfl) (fun _ _ _ h => h) (Or.inl ⟨by rfl, ?_⟩) (by assumption) ?_
  rotate_left
  · (intro w hSw; (try dsimp only at hSw); go_simp; try with_reducible rfl)
  try simp only [Act.put, zA, zB, zC]
  refine wpAnyZ_takeE 16 (i := 7) (v := ?_) rfl (by kernel_rfl) (by kernel_rfl) (by kernel_rfl) (by kernel_rfl) (fun _ _ _ h => h) (Or.inl ⟨by rfl, ?_⟩) (by assumption) ?_
  rotate_left
  · (intro w hSw; (try dsimp only at hSw); go_simp; try with_reducible rfl)
  try simp only [Act.put, zA, zB, zC]
  refine wpAnyZ_takeE 16 (i := 8) (v := ?_) rfl (by kernel_rfl) (by kernel_rfl) (by kernel_rfl) (by kernel_rfl) (fun _ _ _ h => h) (Or.inl ⟨by rfl, ?_⟩) (by assumption) ?_
  rotate_left
  · (intro w hSw; (try dsimp only at hSw); go_simp; try with_reducible rfl)
  try simp only [Act.put, zA, zB, zC]
  refine wpAnyZ_takeE 16 (i := 9) (v := ?_) rfl (by kernel_rfl) (by kernel_rfl) (by kernel_rfl) (by kernel_rfl) (fun _ _ _ h => h) (Or.inl ⟨by rfl, ?_⟩) (by assumption) ?_
  rotate_left
  · (intro w hSw; (try dsimp only at hSw); go_simp; try with_reducible rfl)
  try simp only [Act.put, zA, zB, zC]
  refine wpAnyZ_takeE 16 (i := 10) (v := ?_) rfl (by kernel_rfl) (by kernel_rfl) (by kernel_rfl) (by kernel_rfl) (fun _ _ _ h => h) (Or.inl ⟨by rfl, ?_⟩) (by assumption) ?_
  rotate_left
  · (intro w hSw; (try dsimp only at hSw); go_simp; try with_reducible rfl)
  try simp only [Act.put, zA, zB, zC]
  refine wpAnyZ_takeE 16 (i := 11) (v := ?_) rfl (by kernel_rfl) (by kernel_rfl) (by kernel_rfl) (by kernel_rfl) (fun _ _ _ h => h) (Or.inl ⟨by rfl, ?_⟩) (by assumption) ?_
  rotate_left
  · (intro w hSw; (try dsimp only at hSw); go_simp; try with_reducible rfl)
  try simp only [Act.put, zA, zB, zC]
  refine wpAnyZ_takeE 16 (i := 12) (v := ?_) rfl (by kernel_rfl) (by kernel_rfl) (by kernel_rfl) (by kernel_rfl) (fun _ _ _ h => h) (Or.inl ⟨by rfl, ?_⟩) (by assumption) ?_
  rotate_left
  · (intro w hSw; (try dsimp only at hSw); go_simp; try with_reducible rfl)
  try simp only [Act.put, zA, zB, zC]
  refine wpAnyZ_takeE 16 (i := 13) (v := ?_) rfl (by kernel_rfl) (by kernel_rfl) (by kernel_rfl) (by kernel_rfl) (fun _ _ _ h => h) (Or.inl ⟨by rfl, ?_⟩) (by assumption) ?_
  rotate_left
  · (intro w hSw; (try dsimp only at hSw); go_simp; try with_reducible rfl)
  try simp only [Act.put, zA, zB, zC]
  refine wpAnyZ_oneL (i := 14) (by kernel_rfl) rfl (fun K hK => ?_)
  go_simp
  refine hK.out _ _ (fun h => absurd h (by decide)) (fun _ => ?_)
  clear hK K
  try simp only [Act.put, zA, zB, zC]
  refine wpAnyZ_done (by kernel_rfl) ?_ _
  clear hHeld
  have HDR2 : Hid (Below w1.heap.size w1 w1.drew.drew) := HDR.out.drew
  go_upto_region 22 with fail
  refine wp_region_Z (S := fun W' : World => W'.cell? ⟨w.heap.size, 3, none⟩ = some (.int .i64 (k : Nat)) ∧ W'.cell? ⟨xb, 43, none⟩ = some (.slice (some ⟨kb, koff, none⟩) v.keys.length kc) ∧ W'.cell? ⟨kb, koff + k, none⟩ = some (.string key)) 28 (by kernel_rfl) (HS2.out _ HDR2.out) (fun hHeld => ?_)
  refine wpAnyZ_takeE 16 (i := 0) (v := ?_) rfl (by kernel_rfl) (by kernel_rfl) (by kernel_rfl) (by kernel_rfl) (fun _ _ _ h => h) (Or.inl ⟨by rfl, ?_⟩) (by assumption) ?_
  rotate_left
  · (intro w hSw; (try dsimp only at hSw); go_simp; try with_reducible rfl)
  try simp only [Act.put, zA, zB, zC]
  refine wpAnyZ_takeE 16 (i := 2) (v := ?_) rfl (by kernel_rfl) (by kernel_rfl) (by kernel_rfl) (by kernel_rfl) (fun _ _ _ h => h) (Or.inl ⟨by rfl, ?_⟩) (by assumption) ?_
  rotate_left
  · (intro w hSw; (try dsimp only at hSw); go_simp; try with_reducible rfl)
  try simp only [Act.put, zA, zB, zC]
  refine wpAnyZ_oneL (i := 1) (by kernel_rfl) rfl (fun K hK => ?_)
  go_simp
  go_at_call 82
  refine (class_any _ 6 _).mono ?_
  rintro e w6 ⟨rfl, hw6⟩
  have HB6 : Hid (Below w1.heap.size w1 w6) := by unfold Hid; rw [hw6]; exact HDR2.out
  clear hw6
  refine hK.out _ _ (fun _ => HS2.out _ HB6.out) (fun hHeld => ?_)
  replace hHeld := hHeld (by decide)
  clear hK K
  try simp only [Act.put, zA, zB, zC]
  refine wpAnyZ_takeE 16 (i := 3) (v := ?_) rfl (by kernel_rfl) (by kernel_rfl) (by kernel_rfl) (by kernel_rfl) (fun _ _ _ h => h) (Or.inl ⟨by rfl, ?_⟩) (by assumption) ?_
  rotate_left
  · (intro w hSw; (try dsimp only at hSw); go_simp; try with_reducible rfl)
  try simp only [Act.put, zA, zB, zC]
  refine wpAnyZ_takeE 16 (i := 4) (v := ?_) rfl (by kernel_rfl) (by kernel_rfl) (by kernel_rfl) (by kernel_rfl) (fun _ _ _ h => h) (Or.inl ⟨by rfl, ?_⟩) (by assumption) ?_
  rotate_left
  · (intro w hSw; (try dsimp only at hSw); go_simp; try with_reducible rfl)
  try simp only [Act.put, zA, zB, zC]
  refine wpAnyZ_takeE 16 (i := 5) (v := ?_) rfl (by kernel_rfl) (by kernel_rfl) (by kernel_rfl) (by kernel_rfl) (fun _ _ _ h => h) (Or.inl ⟨by rfl, ?_⟩) (by assumption) ?_
  rotate_left
  · (intro w hSw; (try dsimp only at hSw); go_simp; try with_reducible rfl)
  try simp only [Act.put, zA, zB, zC]
  refine wpAnyZ_takeE 16 (i := 6) (v := ?_) rfl (by kernel_rfl) (by kernel_rfl) (by kernel_rfl) (by kernel_rfl) (fun _ _ _ h => h) (Or.inl ⟨by rfl, ?_⟩) (by assumption) ?_
  rotate_left
  · (intro w hSw; (try dsimp only at hSw); go_simp; try with_reducible rfl)
  try simp only [Act.put, zA, zB, zC]
  refine wpAnyZ_takeE 16 (i := 7) (v := ?_) rfl (by kernel_rfl) (by kernel_rfl) (by kernel_rfl) (by kernel_rfl) (fun _ _ _ h => h) (Or.inl ⟨by rfl, ?_⟩) (by assumption) ?_
  rotate_left
  · (intro w hSw; (try dsimp only at hSw); go_simp; try with_reducible rfl)
  try simp only [Act.put, zA, zB, zC]
  refine wpAnyZ_takeE 16 (i := 8) (v := ?_) rfl (by kernel_rfl) (by kernel_rfl) (by kernel_rfl) (by kernel_rfl) (fun _ _ _ h => h) (Or.inl ⟨by rfl, ?_⟩) (by assumption) ?_
  rotate_left
  · (intro w hSw; (try dsimp only at hSw); go_simp; try with_reducible rfl)
  try simp only [Act.put, zA, zB, zC]
  refine wpAnyZ_takeE 16 (i := 9) (v := ?_) rfl (by kernel_rfl) (by kernel_rfl) (by kernel_rfl) (by kernel_rfl) (fun _ _ _ h => h) (Or.inl ⟨by rfl, ?_⟩) (by assumption) ?_
  rotate_left
  · (intro w hSw; (try dsimp only at hSw); go_simp; try with_reducible rfl)
  try simp only [Act.put, zA, zB, zC]
  refine wpAnyZ_takeE 16 (i := 10) (v := ?_) rfl (by kernel_rfl) (by kernel_rfl) (by kernel_rfl) (by kernel_rfl) (fun _ _ _ h => h) (Or.inl ⟨by rfl, ?_⟩) (by assumption) ?_
  rotate_left
  · (intro w hSw; (try dsimp only at hSw); go_simp; try with_reducible rfl)
  try simp only [Act.put, zA, zB, zC]
  refine wpAnyZ_takeE 16 (i := 11) (v := ?_) rfl (by kernel_rfl) (by kernel_rfl) (by kernel_rfl) (by kernel_rfl) (fun _ _ _ h => h) (Or.inl ⟨by rfl, ?_⟩) (by assumption) ?_
  rotate_left
  · (intro w hSw; (try dsimp only at hSw); go_simp; try with_reducible rfl)
  try simp only [Act.put, zA, zB, zC]
  refine wpAnyZ_takeE 16 (i := 12) (v := ?_) rfl (by kernel_rfl) (by kernel_rfl) (by kernel_rfl) (by kernel_rfl) (fun _ _ _ h => h) (Or.inl ⟨by rfl, ?_⟩) (by assumption) ?_
  rotate_left
  · (intro w hSw; (try dsimp only at hSw); go_simp; try with_reducible rfl)
  try simp only [Act.put, zA, zB, zC]
  refine wpAnyZ_takeE 16 (i := 13) (v := ?_) rfl (by kernel_rfl) (by kernel_rfl) (by kernel_rfl) (by kernel_rfl) (fun _ _ _ h => h) (Or.inl ⟨by rfl, ?_⟩) (by assumption) ?_
  rotate_left
  · (intro w hSw; (try dsimp only at hSw); go_simp; try with_reducible rfl)
  try simp only [Act.put, zA, zB, zC]
  refine wpAnyZ_takeE 16 (i := 14) (v := ?_) rfl (by kernel_rfl) (by kernel_rfl) (by kernel_rfl) (by kernel_rfl) (fun _ _ _ h => h) (Or.inl ⟨by rfl, ?_⟩) (by assumption) ?_
  rotate_left
  · (intro w hSw; (try dsimp only at hSw); go_simp; try with_reducible rfl)
  try simp only [Act.put, zA, zB, zC]
  refine wpAnyZ_takeE 16 (i := 15) (v := ?_) rfl (by kernel_rfl) (by kernel_rfl) (by kernel_rfl) (by kernel_rfl) (fun _ _ _ h => h) (Or.inl ⟨by rfl, ?_⟩) (by assumption) ?_
  rotate_left
  · (intro w hSw; (try dsimp only at hSw); go_simp; try with_reducible rfl)
  try simp only [Act.put, zA, zB, zC]
  refine wpAnyZ_takeE 16 (i := 16) (v := ?_) rfl (by kernel_rfl) (by kernel_rfl) (by kernel_rfl) (by kernel_rfl) (fun _ _ _ h => h) (Or.inl ⟨by rfl, ?_⟩) (by assumption) ?_
  rotate_left
  · (intro w hSw; (try dsimp only at hSw); go_simp; try with_reducible rfl)
  try simp only [Act.put, zA, zB, zC]
  refine wpAnyZ_takeE 16 (i := 17) (v := ?_) rfl (by kernel_rfl) (by kernel_rfl) (by kernel_rfl) (by kernel_rfl) (fun _ _ _ h => h) (Or.inl ⟨by rfl, ?_⟩) (by assumption) ?_
  rotate_left
  · (intro w hSw; (try dsimp only at hSw); go_simp; try with_reducible rfl)
  try simp only [Act.put, zA, zB, zC]
  refine wpAnyZ_takeE 16 (i := 18) (v := ?_) rfl (by kernel_rfl) (by kernel_rfl) (by kernel_rfl) (by kernel_rfl) (fun _ _ _ h => h) (Or.inl ⟨by rfl, ?_⟩) (by assumption) ?_
  rotate_left
  · (intro w hSw; (try dsimp only at hSw); go_simp; try with_reducible rfl)
  try simp only [Act.put, zA, zB, zC]
  refine wpAnyZ_takeE 16 (i := 19) (v := ?_) rfl (by kernel_rfl) (by kernel_rfl) (by kernel_rfl) (by kernel_rfl) (fun _ _ _ h => h) (Or.inl ⟨by rfl, ?_⟩) (by assumption) ?_
  rotate_left
  · (intro w hSw; (try dsimp only at hSw); go_simp; try with_reducible rfl)
  try simp only [Act.put, zA, zB, zC]
  refine wpAnyZ_takeE 16 (i := 20) (v := ?_) rfl (by kernel_rfl) (by kernel_rfl) (by kernel_rfl) (by kernel_rfl) (fun _ _ _ h => h) (Or.inl ⟨by rfl, ?_⟩) (by assumption) ?_
  rotate_left
  · (intro w hSw; (try dsimp only at hSw); go_simp; try with_reducible rfl)
  try simp only [Act.put, zA, zB, zC]
  refine wpAnyZ_takeE 16 (i := 21) (v := ?_) rfl (by kernel_rfl) (by kernel_rfl) (by kernel_rfl) (by kernel_rfl) (fun _ _ _ h => h) (Or.inl ⟨by rfl, ?_⟩) (by assumption) ?_
  rotate_left
  · (intro w hSw; (try dsimp only at hSw); go_simp; try with_reducible rfl)
  try simp only [Act.put, zA, zB, zC]
  refine wpAnyZ_takeE 16 (i := 22) (v := ?_) rfl (by kernel_rfl) (by kernel_rfl) (by kernel_rfl) (by kernel_rfl) (fun _ _ _ h => h) (Or.inl ⟨by rfl, ?_⟩) (by assumption) ?_
  rotate_left
  · (intro w hSw; (try dsimp only at hSw); go_simp; try with_reducible rfl)
  try simp only [Act.put, zA, zB, zC]
  refine wpAnyZ_takeE 16 (i := 23) (v := ?_) rfl (by kernel_rfl) (by kernel_rfl) (by kernel_rfl) (by kernel_rfl) (fun _ _ _ h => h) (Or.inl ⟨by rfl, ?_⟩) (by assumption) ?_
  rotate_left
  · (intro w hSw; (try dsimp only at hSw); go_simp; try with_reducible rfl)
  try simp only [Act.put, zA, zB, zC]
  refine wpAnyZ_takeE 16 (i := 24) (v := ?_) rfl (by kernel_rfl) (by kernel_rfl) (by kernel_rfl) (by kernel_rfl) (fun _ _ _ h => h) (Or.inl ⟨by rfl, ?_⟩) (by assumption) ?_
  rotate_left
  · (intro w hSw; (try dsimp only at hSw); go_simp; try with_reducible rfl)
  try simp only [Act.put, zA, zB, zC]
  refine wpAnyZ_takeE 16 (i := 25) (v := ?_) rfl (by kernel_rfl) (by kernel_rfl) (by kernel_rfl) (by kernel_rfl) (fun _ _ _ h => h) (Or.inl ⟨by rfl, ?_⟩) (by assumption) ?_
  rotate_left
  · (intro w hSw; (try dsimp only at hSw); go_simp; try with_reducible rfl)
  try simp only [Act.put, zA, zB, zC]
  have hHeld0 := hHeld
  refine wpAnyZ_oneL (i := 26) (by kernel_rfl) rfl (fun K hK => ?_)
  go_simp
  go_at_call 83
  refine (refin_any _ _).mono ?_
  rintro e w7 ⟨rfl, hw7⟩
  have HB7 : Hid (Below w1.heap.size w1 w7) := by unfold Hid; rw [hw7]; exact HB6.out
  clear hw7
  refine hK.out _ _ (fun _ => HS2.out _ HB7.out) (fun hHeld => ?_)
  replace hHeld := hHeld (by decide)
  clear hK K
  try simp only [Act.put, zA, zB, zC]
  refine wpAnyZ_takeE 16 (i := 27) (v := ?_) rfl (by kernel_rfl) (by kernel_rfl) (by kernel_rfl) (by kernel_rfl) (fun _ _ _ h => h) (Or.inl ⟨by rfl, ?_⟩) (by assumption) ?_
  rotate_left
  · (intro w hSw; (try dsimp only at hSw); go_simp; try with_reducible rfl)
  try simp only [Act.put, zA, zB, zC]
  refine wpAnyZ_oneL (i := 28) (by kernel_rfl) rfl (fun K hK => ?_)
  go_simp
  refine hK.out _ _ (fun h => absurd h (by decide)) (fun _ => ?_)
  clear hK K
  try simp only [Act.put, zA, zB, zC]
  refine wpAnyZ_done (by kernel_rfl) ?_ _
  clear hHeld
  have HB9 : Hid (Below w.heap.size w w7) := HB1.out.trans (HB7.out.mono HB1.out.size)
  go_wp2_with fail
  go_ret
  refine ⟨?_, HB9.out⟩
  rw [HRF.out]
  exact congrArg (fun z => Ending.returned (.int .i64 z)) (wrap_cls2 _ _)
end Go.Proofs.YtghahghbahcpfaaGreatDoor
