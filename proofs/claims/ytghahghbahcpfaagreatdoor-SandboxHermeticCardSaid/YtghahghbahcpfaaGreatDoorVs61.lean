/- The walk over the execution's refused, whole. -/
import Derived.Test.YtghahghbahcpfaaGreatDoorSg4
namespace Go.Proofs.YtghahghbahcpfaaGreatDoor
open Go.RowKit

set_option maxRecDepth 100000 in
set_option maxHeartbeats 6400000 in
theorem refused_emit (xb : Nat) (c : Nat → Value) (x : StM) (v : ViewM) (j : JobM) (nm tx : ByteArray) (n : Int) (hJ : JB j) (w : World) (hst : XSt xb c x w) (hj : JAt xb c j w) :
    Calls Tryz.prog 59 #[.pointer (some ⟨xb, 0, none⟩), stepV ⟨5, nm, tx, n⟩] w (RefPost j v ⟨5, nm, tx, n⟩ w) := by
  have hlt := hst.lt
  obtain ⟨w1, hw1⟩ : ∃ w1, w.alloc (.cells #[.int .i64 5, .string nm, .string tx, .int .i64 n] 80 (0, 0)) = w1 := ⟨_, rfl⟩
  have hk1 : w1.heap[w.heap.size]? = some (.cells #[.int .i64 5, .string nm, .string tx, .int .i64 n] 80 (0, 0)) := by rw [← hw1]; exact hp_new rfl
  have hb1 : Below w.heap.size w w1 := by rw [← hw1]; exact (Below.refl _ w).alloc (Nat.le_refl _) _
  have hz1 : w.heap.size < w1.heap.size := (Array.getElem?_eq_some_iff.1 hk1).1
  have s0 : w1.cell? ⟨w.heap.size, 0, none⟩ = some (.int .i64 5) := cell_of_blk hk1 0
  have s1 : w1.cell? ⟨w.heap.size, 1, none⟩ = some (.string nm) := cell_of_blk hk1 1
  have s3 : w1.cell? ⟨w.heap.size, 3, none⟩ = some (.int .i64 n) := cell_of_blk hk1 3
  have HW1 := Lib.hid hw1
  have HK1 := Lib.hid hk1
  have HST := Lib.hid (hst.grow hb1)
  have HB1 := Lib.hid hb1
  have HJA := Lib.hid (hj.below (hb1.mono (Nat.le_of_lt hlt)))
  have CN : Hid (∀ W, Below w1.heap.size w1 W → Calls Tryz.prog 48 #[c 26, .string nm] W fun e w' => e = .returned (.bool (j.outputs.contains nm)) ∧ w' = W) := fun W hb =>
    contains_any nm j.outputs (c 26) _ (by have := hJ.outputs; omega) W (HJA.out.below (hb.mono (Nat.le_of_lt (Nat.lt_trans hlt hz1)))).outputs
  have HS : Hid (∀ W' : World, Below w1.heap.size w1 W' → W'.cell? ⟨w.heap.size, 1, none⟩ = some (.string nm) ∧ W'.cell? ⟨xb, 26, none⟩ = some (c 26)) := fun W' hb => ⟨cell_of_blk ((hb.block _ hz1).trans HK1.out) 1, (HST.out.grow hb).cell (by decide)⟩
  have HDR : Hid (Below w1.heap.size w1 w1.drew) := (Below.refl _ _).drew
  have HRF : Hid (refusedF (declF j.inputs) j v ⟨5, nm, tx, n⟩ = classF (j.outputs.contains nm) 6) := by
    unfold Hid refusedF
    dsimp only
    rw [if_neg (by decide), if_neg (by decide), if_neg (by decide), if_neg (by decide), if_pos rfl]
  obtain ⟨d, hd⟩ : ∃ d, j.outputs.contains nm = d := ⟨_, rfl⟩
  rw [hd] at HRF CN
  clear hst hJ hj hk1 hb1 hw1 hd
  go_enter Tryz.func59, Tryz.ntmps59
  go_upto_region 1 with fail
  rw [HW1.out]
  clear HW1
  go_upto_region 23 with fail
  refine wp_region_Z (S := fun W' : World => W'.cell? ⟨w.heap.size, 1, none⟩ = some (.string nm) ∧ W'.cell? ⟨xb, 26, none⟩ = some (c 26)) 9 (by kernel_rfl) (HS.out _ HDR.out) (fun hHeld => ?_)
  refine ztk 0 ?_
  try simp only [Act.put, zA, zB, zC]
  refine ztk 1 ?_
  try simp only [Act.put, zA, zB, zC]
  refine ztk 2 ?_
  try simp only [Act.put, zA, zB, zC]
  refine ztk 3 ?_
  try simp only [Act.put, zA, zB, zC]
  refine ztk 4 ?_
  try simp only [Act.put, zA, zB, zC]
  refine ztk 5 ?_
  try simp only [Act.put, zA, zB, zC]
  refine ztk 6 ?_
  try simp only [Act.put, zA, zB, zC]
  refine wpAnyZ_oneL (i := 7) (by kernel_rfl) rfl (fun K hK => ?_)
  go_simp
  go_at_call 48
  refine (CN.out _ HDR.out).mono ?_
  rintro e w5 ⟨rfl, hw5⟩
  have HB5 : Hid (Below w1.heap.size w1 w5) := by unfold Hid; rw [hw5]; exact HDR.out
  clear hw5
  refine hK.out _ _ (fun _ => HS.out _ HB5.out) (fun hHeld => ?_)
  replace hHeld := hHeld (by decide)
  clear hK K
  try simp only [Act.put, zA, zB, zC]
  refine wpAnyZ_oneL (i := 8) (by kernel_rfl) rfl (fun K hK => ?_)
  go_simp
  go_at_call 82
  refine (class_any _ 6 _).mono ?_
  rintro e w6 ⟨rfl, hw6⟩
  have HB6 : Hid (Below w1.heap.size w1 w6) := by unfold Hid; rw [hw6]; exact HB5.out
  clear hw6
  refine hK.out _ _ (fun _ => HS.out _ HB6.out) (fun hHeld => ?_)
  replace hHeld := hHeld (by decide)
  clear hK K
  try simp only [Act.put, zA, zB, zC]
  refine wpAnyZ_oneL (i := 9) (by kernel_rfl) rfl (fun K hK => ?_)
  go_simp
  refine hK.out _ _ (fun h => absurd h (by decide)) (fun _ => ?_)
  clear hK K
  try simp only [Act.put, zA, zB, zC]
  refine wpAnyZ_done (by kernel_rfl) ?_ _
  clear hHeld
  have HB9 : Hid (Below w.heap.size w w6) := HB1.out.trans (HB6.out.mono HB1.out.size)
  go_wp2_with fail
  go_ret
  exact ⟨by rw [HRF.out] <;> rfl, HB9.out⟩
set_option maxRecDepth 100000 in
set_option maxHeartbeats 6400000 in
theorem refused_child (xb : Nat) (c : Nat → Value) (x : StM) (v : ViewM) (j : JobM) (nm tx : ByteArray) (n : Int) (w : World) (hst : XSt xb c x w) (hj : JAt xb c j w) :
    Calls Tryz.prog 59 #[.pointer (some ⟨xb, 0, none⟩), stepV ⟨11, nm, tx, n⟩] w (RefPost j v ⟨11, nm, tx, n⟩ w) := by
  have hlt := hst.lt
  obtain ⟨w1, hw1⟩ : ∃ w1, w.alloc (.cells #[.int .i64 11, .string nm, .string tx, .int .i64 n] 80 (0, 0)) = w1 := ⟨_, rfl⟩
  have hk1 : w1.heap[w.heap.size]? = some (.cells #[.int .i64 11, .string nm, .string tx, .int .i64 n] 80 (0, 0)) := by rw [← hw1]; exact hp_new rfl
  have hb1 : Below w.heap.size w w1 := by rw [← hw1]; exact (Below.refl _ w).alloc (Nat.le_refl _) _
  have hz1 : w.heap.size < w1.heap.size := (Array.getElem?_eq_some_iff.1 hk1).1
  have s0 : w1.cell? ⟨w.heap.size, 0, none⟩ = some (.int .i64 11) := cell_of_blk hk1 0
  have s1 : w1.cell? ⟨w.heap.size, 1, none⟩ = some (.string nm) := cell_of_blk hk1 1
  have s3 : w1.cell? ⟨w.heap.size, 3, none⟩ = some (.int .i64 n) := cell_of_blk hk1 3
  have HW1 := Lib.hid hw1
  have HK1 := Lib.hid hk1
  have HST := Lib.hid (hst.grow hb1)
  have HB1 := Lib.hid hb1
  have c38 : w1.cell? ⟨xb, 38, none⟩ = some (.bool j.child) := by rw [← hj.child]; exact (hst.grow hb1).cell (by decide)
  have HRF : Hid (refusedF (declF j.inputs) j v ⟨11, nm, tx, n⟩ = classF j.child 6) := by
    unfold Hid refusedF
    dsimp only
    rw [if_neg (by decide), if_neg (by decide), if_neg (by decide), if_neg (by decide), if_neg (by decide), if_pos rfl]
  generalize j.child = d at *
  clear hst hj hk1 hb1 hw1
  go_enter Tryz.func59, Tryz.ntmps59
  go_upto_region 1 with fail
  rw [HW1.out]
  clear HW1
  go_wp2_with fail
  refine (class_any _ 6 _).mono ?_
  rintro e w6 ⟨rfl, rfl⟩
  go_wp2_with fail
  go_ret
  exact ⟨by rw [HRF.out] <;> rfl, HB1.out⟩
set_option maxRecDepth 100000 in
set_option maxHeartbeats 6400000 in
theorem refused_rest (xb : Nat) (c : Nat → Value) (x : StM) (v : ViewM) (j : JobM) (op : Int) (nm tx : ByteArray) (n : Int) (h1 : ((op : Int) == 1) = false) (h2 : ((op : Int) == 2) = false) (h3 : ((op : Int) == 3) = false) (h4 : ((op : Int) == 4) = false) (h5 : ((op : Int) == 5) = false) (h7 : ((op : Int) == 7) = false) (h11 : ((op : Int) == 11) = false) (w : World) (hst : XSt xb c x w) :
    Calls Tryz.prog 59 #[.pointer (some ⟨xb, 0, none⟩), stepV ⟨op, nm, tx, n⟩] w (RefPost j v ⟨op, nm, tx, n⟩ w) := by
  obtain ⟨w1, hw1⟩ : ∃ w1, w.alloc (.cells #[.int .i64 op, .string nm, .string tx, .int .i64 n] 80 (0, 0)) = w1 := ⟨_, rfl⟩
  have hk1 : w1.heap[w.heap.size]? = some (.cells #[.int .i64 op, .string nm, .string tx, .int .i64 n] 80 (0, 0)) := by rw [← hw1]; exact hp_new rfl
  have hb1 : Below w.heap.size w w1 := by rw [← hw1]; exact (Below.refl _ w).alloc (Nat.le_refl _) _
  have hz1 : w.heap.size < w1.heap.size := (Array.getElem?_eq_some_iff.1 hk1).1
  have s0 : w1.cell? ⟨w.heap.size, 0, none⟩ = some (.int .i64 op) := cell_of_blk hk1 0
  have s1 : w1.cell? ⟨w.heap.size, 1, none⟩ = some (.string nm) := cell_of_blk hk1 1
  have s3 : w1.cell? ⟨w.heap.size, 3, none⟩ = some (.int .i64 n) := cell_of_blk hk1 3
  have HW1 := Lib.hid hw1
  have HK1 := Lib.hid hk1
  have HST := Lib.hid (hst.grow hb1)
  have HB1 := Lib.hid hb1
  have HRF : Hid (refusedF (declF j.inputs) j v ⟨op, nm, tx, n⟩ = if op = 6 ∨ op = 8 ∨ op = 9 ∨ op = 10 then 0 else 6) := by
    have h1 : ¬ op = 1 := by simpa using h1
    have h2 : ¬ op = 2 := by simpa using h2
    have h3 : ¬ op = 3 := by simpa using h3
    have h4 : ¬ op = 4 := by simpa using h4
    have h5 : ¬ op = 5 := by simpa using h5
    have h7 : ¬ op = 7 := by simpa using h7
    have h11 : ¬ op = 11 := by simpa using h11
    unfold Hid refusedF
    dsimp only
    rw [if_neg h1, if_neg h2, if_neg (fun h => h.elim h7 h3), if_neg h4, if_neg h5, if_neg h11]
  clear hst hk1 hb1 hw1
  by_cases g6 : op = 6
  · have HR6 : Hid (refusedF (declF j.inputs) j v ⟨op, nm, tx, n⟩ = 0) := by unfold Hid; rw [HRF.out, if_pos (.inl g6)]
    subst g6
    clear HRF
    as_aux_lemma =>
    go_enter Tryz.func59, Tryz.ntmps59
    go_upto_region 1 with fail
    rw [HW1.out]
    clear HW1
    go_wp2_with fail
    go_ret
    exact ⟨by rw [HR6.out] <;> rfl, HB1.out⟩
  by_cases g8 : op = 8
  · have HR6 : Hid (refusedF (declF j.inputs) j v ⟨op, nm, tx, n⟩ = 0) := by unfold Hid; rw [HRF.out, if_pos (.inr (.inl g8))]
    subst g8
    clear HRF
    as_aux_lemma =>
    go_enter Tryz.func59, Tryz.ntmps59
    go_upto_region 1 with fail
    rw [HW1.out]
    clear HW1
    go_wp2_with fail
    go_ret
    exact ⟨by rw [HR6.out] <;> rfl, HB1.out⟩
  by_cases g9 : op = 9
  · have HR6 : Hid (refusedF (declF j.inputs) j v ⟨op, nm, tx, n⟩ = 0) := by unfold Hid; rw [HRF.out, if_pos (.inr (.inr (.inl g9)))]
    subst g9
    clear HRF
    as_aux_lemma =>
    go_enter Tryz.func59, Tryz.ntmps59
    go_upto_region 1 with fail
    rw [HW1.out]
    clear HW1
    go_wp2_with fail
    go_ret
    exact ⟨by rw [HR6.out] <;> rfl, HB1.out⟩
  by_cases g10 : op = 10
  · have HR6 : Hid (refusedF (declF j.inputs) j v ⟨op, nm, tx, n⟩ = 0) := by unfold Hid; rw [HRF.out, if_pos (.inr (.inr (.inr g10)))]
    subst g10
    clear HRF
    as_aux_lemma =>
    go_enter Tryz.func59, Tryz.ntmps59
    go_upto_region 1 with fail
    rw [HW1.out]
    clear HW1
    go_wp2_with fail
    go_ret
    exact ⟨by rw [HR6.out] <;> rfl, HB1.out⟩
  have HR6 : Hid (refusedF (declF j.inputs) j v ⟨op, nm, tx, n⟩ = 6) := by unfold Hid; rw [HRF.out, if_neg (by omega)]
  have h6 : ((op : Int) == 6) = false := by simpa using g6
  have h8 : ((op : Int) == 8) = false := by simpa using g8
  have h9 : ((op : Int) == 9) = false := by simpa using g9
  have h10 : ((op : Int) == 10) = false := by simpa using g10
  clear HRF g6 g8 g9 g10
  go_enter Tryz.func59, Tryz.ntmps59
  go_upto_region 1 with fail
  rw [HW1.out]
  clear HW1
  go_wp2_with fail
  go_ret
  exact ⟨by rw [HR6.out] <;> rfl, HB1.out⟩
theorem refused_any (xb : Nat) (c : Nat → Value) (x : StM) (v : ViewM) (j : JobM) (s : StepM) (hnm : s.name.size ≤ 10000) (hJ : JB j) (hB : VB v) (w : World) (hst : XSt xb c x w) (hv : VAt xb c v w) (hj : JAt xb c j w) :
    Calls Tryz.prog 59 #[.pointer (some ⟨xb, 0, none⟩), stepV s] w (RefPost j v s w) := by
  obtain ⟨op, nm, tx, n⟩ := s
  by_cases h1 : op = 1
  · subst h1; exact refused_read xb c x v j nm tx n hnm hJ hB w hst hv hj
  by_cases h2 : op = 2
  · subst h2; exact refused_use xb c x v j nm tx n hJ hB w hst hv hj
  by_cases h3 : op = 7 ∨ op = 3
  · exact refused_secret xb c x v j op h3 nm tx n hJ hB w hst hv hj
  by_cases h4 : op = 4
  · subst h4
    by_cases n0 : 0 ≤ n
    · by_cases n1 : n < (j.ncach : Int)
      · obtain ⟨k, rfl⟩ := Int.eq_ofNat_of_zero_le n0
        by_cases n2 : k < v.keys.length
        · exact refused_memo_d xb c x v j nm tx k (by omega) n2 hJ hB w hst hv hj
        · exact refused_memo_c xb c x v j nm tx k (by omega) (by omega) hJ hB w hst hv hj
      · exact refused_memo_b xb c x v j nm tx n n0 n1 hJ hB w hst hv hj
    · exact refused_memo_a xb c x v j nm tx n (by omega) hJ hB w hst hv hj
  by_cases h5 : op = 5
  · subst h5; exact refused_emit xb c x v j nm tx n hJ w hst hj
  by_cases h11 : op = 11
  · subst h11; exact refused_child xb c x v j nm tx n w hst hj
  · exact refused_rest xb c x v j op nm tx n (by simpa using h1) (by simpa using h2) (by simpa using fun h => h3 (.inr h)) (by simpa using h4) (by simpa using h5) (by simpa using fun h => h3 (.inl h)) (by simpa using h11) w hst
/-- what is not refused is there -/
theorem refused_ok {D : ByteArray → Bool} {j : JobM} {v : ViewM} {s : StepM} (h : refusedF D j v s = 0) : OkS v s := by
  have hc : ∀ (b : Bool), classF b 6 = 0 → b = true := fun b => by cases b with
    | false => intro h; exact absurd h (by decide)
    | true => intro _; rfl
  have hc2 : ∀ (a b : Bool), classF a 6 + classF b 7 = 0 → a = true ∧ b = true := fun a b => by cases a <;> cases b <;> first | (intro h; exact absurd h (by decide)) | (intro _; exact ⟨rfl, rfl⟩)
  unfold refusedF at h
  refine ⟨fun e => ?_, fun e => ?_, fun e => ?_, fun e => ?_⟩
  · rw [if_pos e] at h
    obtain ⟨h1, h2⟩ := hc2 _ _ h
    rw [h1] at h2
    cases hf : fileF v s.name with
    | none => rw [hf] at h2; cases h2
    | some f => rfl
  · rw [if_neg (by omega), if_pos e] at h
    obtain ⟨h1, h2⟩ := hc2 _ _ h
    rw [h1] at h2
    cases hf : artF v s.name with
    | none => rw [hf] at h2; cases h2
    | some f => rfl
  · rw [if_neg (by omega), if_neg (by omega), if_pos (.inr e)] at h
    have := hc _ h
    rw [Bool.and_eq_true] at this
    exact this.1
  · rw [if_neg (by omega), if_neg (by omega), if_neg (by omega), if_pos e] at h
    obtain ⟨h1, h2⟩ := hc2 _ _ h
    rw [h1] at h2
    have h1 := of_decide_eq_true h1
    refine ⟨h1.1, ?_⟩
    rw [Bool.true_and, Bool.not_eq_true', Bool.or_eq_false_iff] at h2
    have := of_decide_eq_false h2.1
    omega
end Go.Proofs.YtghahghbahcpfaaGreatDoor
/- The walk over the execution's takes. -/
namespace Go.Proofs.YtghahghbahcpfaaGreatDoor
open Go.RowKit

theorem timF_eq (v : ViewM) (nm : ByteArray) : timF (v.times.find? fun x => decide (x.name = nm)) = timedF v nm := rfl
theorem limI_r (n : Int) : i64R (limI n) := by unfold i64R limI; omega
theorem timedF_r (v : ViewM) (nm : ByteArray) : i64R (timedF v nm) := by
  unfold timedF
  split
  · unfold i64R; omega
  · exact limI_r _
theorem foldT_r (v : ViewM) : ∀ (l : List ByteArray) (a : Int), i64R a → i64R (l.foldl (fun a t => addI a (timedF v t)) a)
  | [], _, h => h
  | _ :: l, _, _ => foldT_r v l _ (addI_r _ _)
def TkRel (v : ViewM) (w1 : World) (f : Nat) (t5 t25 : Value) (wr : World) : Prop :=
  ∃ i : Nat, t5 = .int .i64 ((v.tests.take i).foldl (fun a t => addI a (timedF v t)) 0) ∧ t25 = .int .i64 (i : Nat) ∧ i ≤ v.tests.length ∧ f = v.tests.length - i ∧ Below w1.heap.size w1 wr
def TksPost (v : ViewM) (x : StM) (s : StepM) (w : World) (e : Ending) (w' : World) : Prop := e = .returned (.int .i64 (takesF v x.saves s)) ∧ Below w.heap.size w w'
set_option maxRecDepth 100000 in
set_option maxHeartbeats 3200000 in
theorem takes_memo (xb : Nat) (c : Nat → Value) (x : StM) (v : ViewM) (nm tx : ByteArray) (n : Nat) (hn : n < v.keys.length) (hsv : x.saves.length ≤ 10000) (hB : VB v) (w : World) (hst : XSt xb c x w) (hv : VAt xb c v w) :
    Calls Tryz.prog 61 #[.pointer (some ⟨xb, 0, none⟩), stepV ⟨4, nm, tx, (n : Nat)⟩] w (TksPost v x ⟨4, nm, tx, (n : Nat)⟩ w) := by
  have hlt := hst.lt
  obtain ⟨w1, hw1⟩ : ∃ w1, w.alloc (.cells #[.int .i64 4, .string nm, .string tx, .int .i64 (n : Nat)] 80 (0, 0)) = w1 := ⟨_, rfl⟩
  have hk1 : w1.heap[w.heap.size]? = some (.cells #[.int .i64 4, .string nm, .string tx, .int .i64 (n : Nat)] 80 (0, 0)) := by rw [← hw1]; exact hp_new rfl
  have hb1 : Below w.heap.size w w1 := by rw [← hw1]; exact (Below.refl _ w).alloc (Nat.le_refl _) _
  have hz1 : w.heap.size < w1.heap.size := (Array.getElem?_eq_some_iff.1 hk1).1
  have s0 : w1.cell? ⟨w.heap.size, 0, none⟩ = some (.int .i64 4) := cell_of_blk hk1 0
  have s1 : w1.cell? ⟨w.heap.size, 1, none⟩ = some (.string nm) := cell_of_blk hk1 1
  have s3 : w1.cell? ⟨w.heap.size, 3, none⟩ = some (.int .i64 (n : Nat)) := cell_of_blk hk1 3
  have HW1 := Lib.hid hw1
  have HK1 := Lib.hid hk1
  have HST := Lib.hid (hst.grow hb1)
  have HB1 := Lib.hid hb1
  have hv1 := hv.below (hb1.mono (Nat.le_of_lt hlt))
  obtain ⟨cs, p, l, r, o, t, s, hx1⟩ := hst.grow hb1
  have KN := Lib.hid (known_any n xb v x.saves (c 43) s (c 42) _ _ _ hn hB.keys (by omega) hB.caches (fun k hk => Nat.le_trans (hB.keyN k hk) (by decide)) w1 (hx1.cell (by decide)) (hx1.cell (by decide)) ((cell_of_blk hx1.blk 55).trans hx1.c55) hv1.keys (hx1.saves.row (B' := fun _ => True) (fun _ _ => trivial) (fun _ _ => trivial)) hv1.caches)
  have HRF : Hid (takesF v x.saves ⟨4, nm, tx, (n : Nat)⟩ = if knownF v x.saves (n : Nat) = true then 0 else 1000) := by
    unfold Hid takesF
    dsimp only
    rw [if_pos rfl]
  generalize knownF v x.saves (n : Nat) = b at *
  clear hst hv hv1 hx1 hB hn hk1 hb1 hw1
  go_enter Tryz.func61, Tryz.ntmps61
  go_upto_region 1 with fail
  rw [HW1.out]
  clear HW1
  go_wp2_with fail
  refine KN.out.mono ?_
  rintro e w2 ⟨rfl, hb⟩
  have HB2 : Hid (Below w.heap.size w w2) := HB1.out.trans (hb.mono HB1.out.size)
  clear hb KN
  cases b with
  | true =>
    as_aux_lemma =>
    go_wp2_with fail
    go_ret
    exact ⟨by rw [HRF.out] <;> rfl, HB2.out⟩
  | false =>
    as_aux_lemma =>
    go_wp2_with fail
    go_ret
    exact ⟨by rw [HRF.out] <;> rfl, HB2.out⟩
set_option maxRecDepth 100000 in
set_option maxHeartbeats 3200000 in
theorem takes_test (xb : Nat) (c : Nat → Value) (x : StM) (v : ViewM) (nm tx : ByteArray) (n : Int) (hB : VB v) (w : World) (hst : XSt xb c x w) (hv : VAt xb c v w) :
    Calls Tryz.prog 61 #[.pointer (some ⟨xb, 0, none⟩), stepV ⟨8, nm, tx, n⟩] w (TksPost v x ⟨8, nm, tx, n⟩ w) := by
  have hlt := hst.lt
  obtain ⟨w1, hw1⟩ : ∃ w1, w.alloc (.cells #[.int .i64 8, .string nm, .string tx, .int .i64 n] 80 (0, 0)) = w1 := ⟨_, rfl⟩
  have hk1 : w1.heap[w.heap.size]? = some (.cells #[.int .i64 8, .string nm, .string tx, .int .i64 n] 80 (0, 0)) := by rw [← hw1]; exact hp_new rfl
  have hb1 : Below w.heap.size w w1 := by rw [← hw1]; exact (Below.refl _ w).alloc (Nat.le_refl _) _
  have hz1 : w.heap.size < w1.heap.size := (Array.getElem?_eq_some_iff.1 hk1).1
  have s0 : w1.cell? ⟨w.heap.size, 0, none⟩ = some (.int .i64 8) := cell_of_blk hk1 0
  have s1 : w1.cell? ⟨w.heap.size, 1, none⟩ = some (.string nm) := cell_of_blk hk1 1
  have s3 : w1.cell? ⟨w.heap.size, 3, none⟩ = some (.int .i64 n) := cell_of_blk hk1 3
  have HW1 := Lib.hid hw1
  have HK1 := Lib.hid hk1
  have HST := Lib.hid (hst.grow hb1)
  have HB1 := Lib.hid hb1
  obtain ⟨ko, kc, hko⟩ := hv.tests.form
  have hkr := (hv.below (hb1.mono (Nat.le_of_lt hlt))).tests
  have c44 : w1.cell? ⟨xb, 44, none⟩ = some (.slice ko v.tests.length kc) := by rw [← hko]; exact (hst.grow hb1).cell (by decide)
  rw [hko] at hkr
  have HK := Lib.hid hkr
  have hnt := hB.tests
  have TM : Hid (∀ nm W, Below w1.heap.size w1 W → Calls Tryz.prog 88 #[.pointer (some ⟨xb, 0, none⟩), .string nm] W fun e w' => e = .returned (.int .i64 (timedF v nm)) ∧ Below W.heap.size W w') := fun nm W hb =>
    timed_any nm xb v.times (c 45) _ (by have := hB.times; omega) W ((HST.out.grow hb).cell (by decide)) (hv.below ((HB1.out.trans (hb.mono HB1.out.size)).mono (Nat.le_of_lt hlt))).times
  have HRF : Hid (takesF v x.saves ⟨8, nm, tx, n⟩ = v.tests.foldl (fun a t => addI a (timedF v t)) 0) := by
    unfold Hid takesF
    dsimp only
    rw [if_neg (by decide), if_pos rfl]
  clear hst hv hB hk1 hb1 hw1 hkr hko
  go_enter Tryz.func61, Tryz.ntmps61
  go_upto_region 1 with fail
  rw [HW1.out]
  clear HW1
  go_wp2_with fail
  go_loopg [5, 25] v.tests.length (TkRel v w1)
  case atStart => exact ⟨0, rfl, rfl, Nat.zero_le _, rfl, Below.refl _ _⟩
  case round =>
    obtain ⟨i, rfl, rfl, hi, rfl, hb⟩ := hrel
    have HBi := Lib.hid hb
    have hkr := HK.out.below hb
    clear hb
    by_cases hlt : i < v.tests.length
    · obtain ⟨b1, o1, rfl, _, hc1⟩ := strs_at hkr hlt
      have hii : (i : Int) < (v.tests.length : Int) := by omega
      have HF : Hid ((v.tests.take (i + 1)).foldl (fun a t => addI a (timedF v t)) 0 = addI ((v.tests.take i).foldl (fun a t => addI a (timedF v t)) 0) (timedF v v.tests[i])) := by
        unfold Hid
        rw [List.take_succ_eq_append_getElem hlt, List.foldl_append]
        rfl
      have hr := foldT_r v (v.tests.take i) 0 (by unfold i64R; omega)
      generalize (v.tests.take i).foldl (fun a t => addI a (timedF v t)) 0 = acc at *
      generalize v.tests[i] = nmi at *
      clear hkr
      as_aux_lemma =>
      have HR := Lib.hid hr
      clear hr
      go_wp2_with fail
      refine (TM.out nmi _ HBi.out).mono ?_
      rintro e w3 ⟨rfl, hb3⟩
      have HB3 := Lib.hid (HBi.out.trans (hb3.mono HBi.out.size))
      clear hb3
      go_wp2_with fail
      refine (add_any acc (timedF v nmi) HR.out (timedF_r v nmi) w3).mono ?_
      rintro e w4 ⟨rfl, hw4⟩
      rw [hw4]
      clear hw4 w4
      go_wp2_with fail
      go_roundg (v.tests.length - (i + 1))
      case measure => omega
      case rel => exact ⟨i + 1, by rw [HF.out], by go_num, by omega, rfl, HB3.out⟩
    · have hii : ¬ (i : Int) < (v.tests.length : Int) := by omega
      have he : i = v.tests.length := by omega
      have HF : Hid ((v.tests.take i).foldl (fun a t => addI a (timedF v t)) 0 = v.tests.foldl (fun a t => addI a (timedF v t)) 0) := by unfold Hid; rw [he, List.take_length]
      generalize (v.tests.take i).foldl (fun a t => addI a (timedF v t)) 0 = acc at *
      clear he hkr
      as_aux_lemma =>
      go_wp2_with fail
      go_ret
      exact ⟨by rw [HRF.out, ← HF.out] <;> rfl, HB1.out.trans (HBi.out.mono HB1.out.size)⟩
set_option maxRecDepth 100000 in
set_option maxHeartbeats 3200000 in
theorem takes_sleep (xb : Nat) (x : StM) (v : ViewM) (nm tx : ByteArray) (n : Int) (w : World) :
    Calls Tryz.prog 61 #[.pointer (some ⟨xb, 0, none⟩), stepV ⟨10, nm, tx, n⟩] w (TksPost v x ⟨10, nm, tx, n⟩ w) := by
  obtain ⟨w1, hw1⟩ : ∃ w1, w.alloc (.cells #[.int .i64 10, .string nm, .string tx, .int .i64 n] 80 (0, 0)) = w1 := ⟨_, rfl⟩
  have hk1 : w1.heap[w.heap.size]? = some (.cells #[.int .i64 10, .string nm, .string tx, .int .i64 n] 80 (0, 0)) := by rw [← hw1]; exact hp_new rfl
  have hb1 : Below w.heap.size w w1 := by rw [← hw1]; exact (Below.refl _ w).alloc (Nat.le_refl _) _
  have hz1 : w.heap.size < w1.heap.size := (Array.getElem?_eq_some_iff.1 hk1).1
  have s0 : w1.cell? ⟨w.heap.size, 0, none⟩ = some (.int .i64 10) := cell_of_blk hk1 0
  have s1 : w1.cell? ⟨w.heap.size, 1, none⟩ = some (.string nm) := cell_of_blk hk1 1
  have s3 : w1.cell? ⟨w.heap.size, 3, none⟩ = some (.int .i64 n) := cell_of_blk hk1 3
  have HW1 := Lib.hid hw1
  have HK1 := Lib.hid hk1
  have HB1 := Lib.hid hb1
  have HRF : Hid (takesF v x.saves ⟨10, nm, tx, n⟩ = limI n) := by
    unfold Hid takesF
    dsimp only
    rw [if_neg (by decide), if_neg (by decide), if_pos rfl]
  clear hk1 hb1 hw1
  go_enter Tryz.func61, Tryz.ntmps61
  go_upto_region 1 with fail
  rw [HW1.out]
  clear HW1
  go_wp2_with fail
  refine (limit_any n _).mono ?_
  rintro e w2 ⟨rfl, rfl⟩
  go_wp2_with fail
  go_ret
  exact ⟨by rw [HRF.out] <;> rfl, HB1.out⟩
set_option maxRecDepth 100000 in
set_option maxHeartbeats 3200000 in
theorem takes_rest (xb : Nat) (x : StM) (v : ViewM) (op : Int) (nm tx : ByteArray) (n : Int) (h4 : ((op : Int) == 4) = false) (h8 : ((op : Int) == 8) = false) (h10 : ((op : Int) == 10) = false) (w : World) :
    Calls Tryz.prog 61 #[.pointer (some ⟨xb, 0, none⟩), stepV ⟨op, nm, tx, n⟩] w (TksPost v x ⟨op, nm, tx, n⟩ w) := by
  obtain ⟨w1, hw1⟩ : ∃ w1, w.alloc (.cells #[.int .i64 op, .string nm, .string tx, .int .i64 n] 80 (0, 0)) = w1 := ⟨_, rfl⟩
  have hk1 : w1.heap[w.heap.size]? = some (.cells #[.int .i64 op, .string nm, .string tx, .int .i64 n] 80 (0, 0)) := by rw [← hw1]; exact hp_new rfl
  have hb1 : Below w.heap.size w w1 := by rw [← hw1]; exact (Below.refl _ w).alloc (Nat.le_refl _) _
  have hz1 : w.heap.size < w1.heap.size := (Array.getElem?_eq_some_iff.1 hk1).1
  have s0 : w1.cell? ⟨w.heap.size, 0, none⟩ = some (.int .i64 op) := cell_of_blk hk1 0
  have s1 : w1.cell? ⟨w.heap.size, 1, none⟩ = some (.string nm) := cell_of_blk hk1 1
  have s3 : w1.cell? ⟨w.heap.size, 3, none⟩ = some (.int .i64 n) := cell_of_blk hk1 3
  have HW1 := Lib.hid hw1
  have HK1 := Lib.hid hk1
  have HB1 := Lib.hid hb1
  have HRF : Hid (takesF v x.saves ⟨op, nm, tx, n⟩ = 0) := by
    unfold Hid takesF
    dsimp only
    rw [if_neg (by simpa using h4), if_neg (by simpa using h8), if_neg (by simpa using h10)]
  clear hk1 hb1 hw1
  go_enter Tryz.func61, Tryz.ntmps61
  go_upto_region 1 with fail
  rw [HW1.out]
  clear HW1
  go_wp2_with fail
  go_ret
  exact ⟨by rw [HRF.out] <;> rfl, HB1.out⟩
theorem takes_any (xb : Nat) (c : Nat → Value) (x : StM) (v : ViewM) (s : StepM) (hok : OkS v s) (hsv : x.saves.length ≤ 10000) (hB : VB v) (w : World) (hst : XSt xb c x w) (hv : VAt xb c v w) :
    Calls Tryz.prog 61 #[.pointer (some ⟨xb, 0, none⟩), stepV s] w (TksPost v x s w) := by
  obtain ⟨op, nm, tx, n⟩ := s
  by_cases h4 : op = 4
  · subst h4
    obtain ⟨h5, h6⟩ := hok.key rfl
    obtain ⟨n, rfl⟩ := Int.eq_ofNat_of_zero_le h5
    dsimp only at h6
    exact takes_memo xb c x v nm tx n (by omega) hsv hB w hst hv
  by_cases h8 : op = 8
  · subst h8; exact takes_test xb c x v nm tx n hB w hst hv
  by_cases h10 : op = 10
  · subst h10; exact takes_sleep xb x v nm tx n w
  · exact takes_rest xb x v op nm tx n (by simpa using h4) (by simpa using h8) (by simpa using h10) w
theorem takesF_r (v : ViewM) (sv : List EntM) (s : StepM) : i64R (takesF v sv s) := by
  unfold takesF
  split
  · split <;> (unfold i64R; omega)
  split
  · exact foldT_r v _ _ (by unfold i64R; omega)
  split
  · exact limI_r _
  · unfold i64R; omega
end Go.Proofs.YtghahghbahcpfaaGreatDoor
