/- The walks over the package matrix: names, scalars, closures that compare. -/
import Derived.Test.YtomecnncighkgaaGreatDoorMw1
import Derived.Test.YtomecnncighkgaaGreatDoorVk3
import Derived.Test.YtomecnncighkgaaGreatDoorVp1m
namespace Go.Proofs.YtomecnncighkgaaGreatDoor
open Go.RowKit Go.Deep

set_option maxRecDepth 100000 in
theorem named_any (s : ByteArray) (w : World) : Calls Tryz.prog 35 #[.string s] w fun e w' => e = .returned (.bool (keyOk s)) ∧ w' = w := by
  have HK : Hid (keyOk s = (decide (1 ≤ s.size) && decide (s.size ≤ 64))) := rfl
  generalize keyOk s = r at *
  cases hs : s.data.toList with
  | nil =>
    obtain ⟨e1, e2⟩ := str_nil hs
    have HN : Hid (r = false) := by unfold Hid; rw [HK.out, e2]; rfl
    have t1 : decide ((1 : Int) ≤ (s.size : Int)) = false := decide_eq_false (by omega)
    have t1b : ¬ (1 : Int) ≤ (s.size : Int) := by omega
    have t1c : (s.size : Int) < 1 := by omega
    clear hs e2 HK
    as_aux_lemma =>
    go_enter Tryz.func35, Tryz.ntmps35
    go_wp2_with fail
    go_ret
    exact ⟨by rw [HN.out] <;> rfl, rfl⟩
  | cons c q =>
    obtain ⟨e1, e2⟩ := str_cons hs
    have t1 : (1 : Int) ≤ (s.size : Int) := by omega
    by_cases h64 : s.size ≤ 64
    · have t2 : (s.size : Int) ≤ 64 := by omega
      have HN : Hid (r = true) := by unfold Hid; rw [HK.out, decide_eq_true h64, decide_eq_true (show 1 ≤ s.size by omega)]; rfl
      clear hs e2 HK h64
      as_aux_lemma =>
      go_enter Tryz.func35, Tryz.ntmps35
      go_wp2_with fail
      go_ret
      exact ⟨by rw [HN.out] <;> rfl, rfl⟩
    · have t2 : decide ((s.size : Int) ≤ 64) = false := decide_eq_false (by omega)
      have t2b : ¬ (s.size : Int) ≤ 64 := by omega
      have t2c : (64 : Int) < (s.size : Int) := by omega
      have HN : Hid (r = false) := by unfold Hid; rw [HK.out, decide_eq_false h64, Bool.and_false]
      clear hs e2 HK h64
      as_aux_lemma =>
      go_enter Tryz.func35, Tryz.ntmps35
      go_wp2_with fail
      go_ret
      exact ⟨by rw [HN.out] <;> rfl, rfl⟩
set_option maxRecDepth 100000 in
set_option maxHeartbeats 1600000 in
theorem scalar_any (v : Value) (t : VT) (w : World) (h : VAt w v t) (hwf : t.wf) : Calls Tryz.prog 65 #[v] w fun e w' => e = .returned (.int .i64 (scalF t : Nat)) ∧ Below w.heap.size w w' := by
  have HV : Hid (∀ W', Below w.heap.size w W' → Calls Tryz.prog 74 #[v] W' fun e w' => e = .returned (.int .i64 (validF t : Nat)) ∧ Below W'.heap.size W' w') := fun W' hb => valid_any v t W' (h.below hb) hwf
  have HS : Hid (scalF t = if t.kind = 4 ∨ t.kind = 5 then 9 else validF t) := rfl
  obtain ⟨v4, v5, rfl, hs, hL⟩ := h.open
  obtain ⟨ko, kc, rfl⟩ := hs.form
  obtain ⟨lo, lc, rfl⟩ := vlist_slice hL
  obtain ⟨W1, hW1⟩ : ∃ W1, w.alloc (.cells #[.int .i64 t.kind, .bool t.bool, .int .i64 t.int, .string t.str, .slice lo t.list.length lc, .slice ko t.keys.length kc] 46 (0, 0)) = W1 := ⟨_, rfl⟩
  have hk1 : W1.heap[w.heap.size]? = some (.cells #[.int .i64 t.kind, .bool t.bool, .int .i64 t.int, .string t.str, .slice lo t.list.length lc, .slice ko t.keys.length kc] 46 (0, 0)) := by rw [← hW1]; exact hp_new rfl
  have HB1 : Hid (Below w.heap.size w W1) := by unfold Hid; rw [← hW1]; exact (Below.refl _ w).alloc (Nat.le_refl _) _
  have CV := Lib.hid (HV.out W1 HB1.out)
  clear h hwf hs hL HV
  generalize scalF t = r at *
  generalize validF t = e at *
  generalize t.kind = k at *
  generalize t.bool = b at *
  generalize t.int = n at *
  generalize t.str = s at *
  generalize t.list.length = ll at *
  generalize t.keys.length = kl at *
  have c0 : W1.cell? ⟨w.heap.size, 0, none⟩ = _ := cell_of_blk hk1 0
  have c1 : W1.cell? ⟨w.heap.size, 1, none⟩ = _ := cell_of_blk hk1 1
  have c2 : W1.cell? ⟨w.heap.size, 2, none⟩ = _ := cell_of_blk hk1 2
  have c3 : W1.cell? ⟨w.heap.size, 3, none⟩ = _ := cell_of_blk hk1 3
  have c4 : W1.cell? ⟨w.heap.size, 4, none⟩ = _ := cell_of_blk hk1 4
  have c5 : W1.cell? ⟨w.heap.size, 5, none⟩ = _ := cell_of_blk hk1 5
  clear hk1
  by_cases h4 : k = 4
  · have HN : Hid (r = 9) := by unfold Hid; rw [HS.out, if_pos (.inl h4)]
    have t4 : (k == 4) = true := by rw [h4]; rfl
    clear h4 HS CV
    as_aux_lemma =>
    go_enter Tryz.func65, Tryz.ntmps65
    go_wp2_with fail
    go_ret
    exact ⟨by rw [HN.out] <;> rfl, HB1.out⟩
  · have t4 : (k == 4) = false := beq_eq_false_iff_ne.2 h4
    by_cases h5 : k = 5
    · have HN : Hid (r = 9) := by unfold Hid; rw [HS.out, if_pos (.inr h5)]
      have t5 : (k == 5) = true := by rw [h5]; rfl
      clear h4 h5 HS CV
      as_aux_lemma =>
      go_enter Tryz.func65, Tryz.ntmps65
      go_wp2_with fail
      go_ret
      exact ⟨by rw [HN.out] <;> rfl, HB1.out⟩
    · have t5 : (k == 5) = false := beq_eq_false_iff_ne.2 h5
      have HN : Hid (r = e) := by unfold Hid; rw [HS.out, if_neg (fun q => q.elim h4 h5)]
      clear h4 h5 HS
      as_aux_lemma =>
      go_enter Tryz.func65, Tryz.ntmps65
      go_wp2_with fail
      refine CV.out.mono ?_
      rintro q w3 ⟨rfl, hb⟩
      have HB3 : Hid (Below w.heap.size w w3) := HB1.out.trans (hb.mono HB1.out.size)
      clear CV hb
      go_wp2_with fail
      go_ret
      exact ⟨by rw [HN.out] <;> rfl, HB3.out⟩
set_option maxRecDepth 100000 in
theorem proper1_any (nm n1 : ByteArray) (k : Int) (b : Bool) (n : Int) (s : ByteArray) (lo : Option Addr) (ln lc : Nat) (ko : Option Addr) (kn kc : Nat) (b5 : Nat) (w : World) (h : w.cell? ⟨b5, 0, none⟩ = some (.string nm)) :
    Calls Tryz.prog 69 (#[.agg #[.string n1, .int .i64 k, .bool b, .int .i64 n, .string s, .slice lo ln lc, .slice ko kn kc]] ++ #[.pointer (some ⟨b5, 0, none⟩)]) w fun e w' => e = .returned (.bool (n1.toList == nm.toList)) ∧ Below w.heap.size w w' := by
  obtain ⟨W1, hW1⟩ : ∃ W1, w.alloc (.cells #[.string n1, .int .i64 k, .bool b, .int .i64 n, .string s, .slice lo ln lc, .slice ko kn kc] 48 (0, 0)) = W1 := ⟨_, rfl⟩
  have hb1 : Below w.heap.size w W1 := by rw [← hW1]; exact (Below.refl _ w).alloc (Nat.le_refl _) _
  have c1 : W1.cell? ⟨b5, 0, none⟩ = some (.string nm) := (hb1.cell (p := ⟨b5, 0, none⟩) (World.block_lt_of_cell? w _ h)).trans h
  have c0 : W1.cell? ⟨w.heap.size, 0, none⟩ = some (.string n1) := by rw [← hW1, cell_of_blk (hp_new rfl)]; rfl
  have HB := Lib.hid hb1
  clear hb1 h
  go_enter Tryz.func69, Tryz.ntmps69
  go_wp2_with fail
  go_ret
  exact ⟨rfl, HB.out⟩
set_option maxRecDepth 100000 in
theorem matches1_any (nm n1 : ByteArray) (k : Int) (b : Bool) (n : Int) (s : ByteArray) (lo : Option Addr) (ln lc : Nat) (ko : Option Addr) (kn kc : Nat) (b5 : Nat) (w : World) (h : w.cell? ⟨b5, 0, none⟩ = some (.string nm)) :
    Calls Tryz.prog 44 (#[.agg #[.string n1, .int .i64 k, .bool b, .int .i64 n, .string s, .slice lo ln lc, .slice ko kn kc]] ++ #[.pointer (some ⟨b5, 0, none⟩)]) w fun e w' => e = .returned (.bool (n1.toList == nm.toList)) ∧ Below w.heap.size w w' := by
  obtain ⟨W1, hW1⟩ : ∃ W1, w.alloc (.cells #[.string n1, .int .i64 k, .bool b, .int .i64 n, .string s, .slice lo ln lc, .slice ko kn kc] 48 (0, 0)) = W1 := ⟨_, rfl⟩
  have hb1 : Below w.heap.size w W1 := by rw [← hW1]; exact (Below.refl _ w).alloc (Nat.le_refl _) _
  have c1 : W1.cell? ⟨b5, 0, none⟩ = some (.string nm) := (hb1.cell (p := ⟨b5, 0, none⟩) (World.block_lt_of_cell? w _ h)).trans h
  have c0 : W1.cell? ⟨w.heap.size, 0, none⟩ = some (.string n1) := by rw [← hW1, cell_of_blk (hp_new rfl)]; rfl
  have HB := Lib.hid hb1
  clear hb1 h
  go_enter Tryz.func44, Tryz.ntmps44
  go_wp2_with fail
  go_ret
  exact ⟨rfl, HB.out⟩
set_option maxRecDepth 100000 in
theorem mvalid1_any (nm n1 : ByteArray) (ao : Option Addr) (n c : Nat) (b5 : Nat) (w : World) (h : w.cell? ⟨b5, 0, none⟩ = some (.string nm)) :
    Calls Tryz.prog 37 (#[.agg #[.string n1, .slice ao n c]] ++ #[.pointer (some ⟨b5, 0, none⟩)]) w fun e w' => e = .returned (.bool (n1.toList == nm.toList)) ∧ Below w.heap.size w w' := by
  obtain ⟨W1, hW1⟩ : ∃ W1, w.alloc (.cells #[.string n1, .slice ao n c] 50 (0, 0)) = W1 := ⟨_, rfl⟩
  have hb1 : Below w.heap.size w W1 := by rw [← hW1]; exact (Below.refl _ w).alloc (Nat.le_refl _) _
  have c1 : W1.cell? ⟨b5, 0, none⟩ = some (.string nm) := (hb1.cell (p := ⟨b5, 0, none⟩) (World.block_lt_of_cell? w _ h)).trans h
  have c0 : W1.cell? ⟨w.heap.size, 0, none⟩ = some (.string n1) := by rw [← hW1, cell_of_blk (hp_new rfl)]; rfl
  have HB := Lib.hid hb1
  clear hb1 h
  go_enter Tryz.func37, Tryz.ntmps37
  go_wp2_with fail
  go_ret
  exact ⟨rfl, HB.out⟩
set_option maxRecDepth 100000 in
theorem many1_any (n1 : ByteArray) (ao : Option Addr) (n c : Nat) (w : World) :
    Calls Tryz.prog 55 (#[.agg #[.string n1, .slice ao n c]] ++ #[]) w fun e w' => e = .returned (.bool (decide (n = 0))) ∧ Below w.heap.size w w' := by
  obtain ⟨W1, hW1⟩ : ∃ W1, w.alloc (.cells #[.string n1, .slice ao n c] 50 (0, 0)) = W1 := ⟨_, rfl⟩
  have HB : Hid (Below w.heap.size w W1) := by unfold Hid; rw [← hW1]; exact (Below.refl _ w).alloc (Nat.le_refl _) _
  have c1 : W1.cell? ⟨w.heap.size, 1, none⟩ = some (.slice ao n c) := by rw [← hW1, cell_of_blk (hp_new rfl)]; rfl
  have HD : Hid ((((n : Nat) : Int) == 0) = decide (n = 0)) := by unfold Hid; rw [Bool.eq_iff_iff]; simp
  go_enter Tryz.func55, Tryz.ntmps55
  go_wp2_with fail
  go_ret
  exact ⟨ret_bool (by first | rfl | exact HD.out | simp), HB.out⟩
set_option maxRecDepth 100000 in
theorem comb11_any (n1 : ByteArray) (ao : Option Addr) (n c : Nat) (w : World) :
    Calls Tryz.prog 57 (#[.agg #[.string n1, .slice ao n c]] ++ #[]) w fun e w' => e = .returned (.bool (decide (n = 0))) ∧ Below w.heap.size w w' := by
  obtain ⟨W1, hW1⟩ : ∃ W1, w.alloc (.cells #[.string n1, .slice ao n c] 50 (0, 0)) = W1 := ⟨_, rfl⟩
  have HB : Hid (Below w.heap.size w W1) := by unfold Hid; rw [← hW1]; exact (Below.refl _ w).alloc (Nat.le_refl _) _
  have c1 : W1.cell? ⟨w.heap.size, 1, none⟩ = some (.slice ao n c) := by rw [← hW1, cell_of_blk (hp_new rfl)]; rfl
  have HD : Hid ((((n : Nat) : Int) == 0) = decide (n = 0)) := by unfold Hid; rw [Bool.eq_iff_iff]; simp
  go_enter Tryz.func57, Tryz.ntmps57
  go_wp2_with fail
  go_ret
  exact ⟨ret_bool (by first | rfl | exact HD.out | simp), HB.out⟩
theorem proper1Enters : ∀ args w, (callFunc 69 args).run Tryz.prog w = .ok (.enter 69 args) w := enters_of Tryz.func69 (by kernel_rfl) rfl
theorem matches1Enters : ∀ args w, (callFunc 44 args).run Tryz.prog w = .ok (.enter 44 args) w := enters_of Tryz.func44 (by kernel_rfl) rfl
theorem mvalid1Enters : ∀ args w, (callFunc 37 args).run Tryz.prog w = .ok (.enter 37 args) w := enters_of Tryz.func37 (by kernel_rfl) rfl
theorem many1Enters : ∀ args w, (callFunc 55 args).run Tryz.prog w = .ok (.enter 55 args) w := enters_of Tryz.func55 (by kernel_rfl) rfl
theorem comb11Enters : ∀ args w, (callFunc 57 args).run Tryz.prog w = .ok (.enter 57 args) w := enters_of Tryz.func57 (by kernel_rfl) rfl
theorem axis1Enters : ∀ args w, (callFunc 67 args).run Tryz.prog w = .ok (.enter 67 args) w := enters_of Tryz.func67 (by kernel_rfl) rfl
theorem expand1Enters : ∀ args w, (callFunc 27 args).run Tryz.prog w = .ok (.enter 27 args) w := enters_of Tryz.func27 (by kernel_rfl) rfl
theorem expand2Enters : ∀ args w, (callFunc 29 args).run Tryz.prog w = .ok (.enter 29 args) w := enters_of Tryz.func29 (by kernel_rfl) rfl
theorem comb1Enters : ∀ args w, (callFunc 56 args).run Tryz.prog w = .ok (.enter 56 args) w := enters_of Tryz.func56 (by kernel_rfl) rfl
set_option maxRecDepth 100000 in
set_option maxHeartbeats 1600000 in
/-- the closure of checkAxis: whether a value that came before is equal -/
theorem axis1_any (x y : VT) (hx : x.wf) (hy : y.wf) (u : Value) (cs : List Value) (b5 : Nat) (w : World) (hk : w.heap[b5]? = some (.cells cs.toArray 46 (0, 0))) (h1 : VAt w (.agg cs.toArray) x) (h2 : VAt w u y) :
    Calls Tryz.prog 67 (#[u] ++ #[.pointer (some ⟨b5, 0, none⟩)]) w fun e w' => e = .returned (.bool (decide (cmpV x y = 0))) ∧ Below w.heap.size w w' := by
  have HQ : Hid (∀ W', Below w.heap.size w W' → Calls Tryz.prog 45 #[.agg cs.toArray, u] W' fun e w' => e = .returned (.bool (decide (cmpV x y = 0))) ∧ Below W'.heap.size W' w') := fun W' hb => equal_any x y hx hy _ _ W' (h1.below hb) (h2.below hb)
  obtain ⟨c2, rfl, hc2⟩ := h2
  obtain ⟨k1, d1, n1, s1, lo1, ln1, lc1, ko1, kn1, kc1, rfl⟩ := vcell_slices0 hc2
  obtain ⟨cs', e, hc1⟩ := h1
  have e : cs.toArray = cs'.toArray := by injection e
  obtain rfl : cs = cs' := by have := congrArg Array.toList e; simpa using this
  obtain ⟨k2, d2, n2, s2, lo2, ln2, lc2, ko2, kn2, kc2, rfl⟩ := vcell_slices0 hc1
  obtain ⟨W1, hW1⟩ : ∃ W1, w.alloc (.cells #[.int .i64 k1, .bool d1, .int .i64 n1, .string s1, .slice lo1 ln1 lc1, .slice ko1 kn1 kc1] 46 (0, 0)) = W1 := ⟨_, rfl⟩
  have hb1 : Below w.heap.size w W1 := by rw [← hW1]; exact (Below.refl _ w).alloc (Nat.le_refl _) _
  have hk1 : W1.heap[w.heap.size]? = some (.cells #[.int .i64 k1, .bool d1, .int .i64 n1, .string s1, .slice lo1 ln1 lc1, .slice ko1 kn1 kc1] 46 (0, 0)) := by rw [← hW1]; exact hp_new rfl
  have hk2 : W1.heap[b5]? = some (.cells #[.int .i64 k2, .bool d2, .int .i64 n2, .string s2, .slice lo2 ln2 lc2, .slice ko2 kn2 kc2] 46 (0, 0)) := (hb1.block _ (Array.getElem?_eq_some_iff.1 hk).1).trans hk
  have CQ := Lib.hid (HQ.out W1 hb1)
  have HB := Lib.hid hb1
  have c0 : W1.cell? ⟨w.heap.size, 0, none⟩ = _ := cell_of_blk hk1 0
  have c1 : W1.cell? ⟨w.heap.size, 1, none⟩ = _ := cell_of_blk hk1 1
  have c2 : W1.cell? ⟨w.heap.size, 2, none⟩ = _ := cell_of_blk hk1 2
  have c3 : W1.cell? ⟨w.heap.size, 3, none⟩ = _ := cell_of_blk hk1 3
  have c4 : W1.cell? ⟨w.heap.size, 4, none⟩ = _ := cell_of_blk hk1 4
  have c5 : W1.cell? ⟨w.heap.size, 5, none⟩ = _ := cell_of_blk hk1 5
  have q0 : W1.cell? ⟨b5, 0, none⟩ = _ := cell_of_blk hk2 0
  have q1 : W1.cell? ⟨b5, 1, none⟩ = _ := cell_of_blk hk2 1
  have q2 : W1.cell? ⟨b5, 2, none⟩ = _ := cell_of_blk hk2 2
  have q3 : W1.cell? ⟨b5, 3, none⟩ = _ := cell_of_blk hk2 3
  have q4 : W1.cell? ⟨b5, 4, none⟩ = _ := cell_of_blk hk2 4
  have q5 : W1.cell? ⟨b5, 5, none⟩ = _ := cell_of_blk hk2 5
  clear hc2 hc1 hb1 hk hk1 hk2 HQ e
  generalize decide (cmpV x y = 0) = d at *
  go_enter Tryz.func67, Tryz.ntmps67
  go_wp2_with fail
  refine CQ.out.mono ?_
  rintro e w3 ⟨rfl, hb⟩
  have HB3 := Lib.hid (HB.out.trans (hb.mono HB.out.size))
  clear CQ hb
  go_wp2_with fail
  go_ret
  exact ⟨rfl, HB3.out⟩
end Go.Proofs.YtomecnncighkgaaGreatDoor
