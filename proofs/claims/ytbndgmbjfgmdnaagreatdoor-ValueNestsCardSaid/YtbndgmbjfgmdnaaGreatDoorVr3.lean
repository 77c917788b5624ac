/- The walks over the reference's character and Quote. -/
import Derived.Test.YtbndgmbjfgmdnaaGreatDoorVq11m
import Derived.Test.YtbndgmbjfgmdnaaGreatDoorVa3
namespace Go.Proofs.YtbndgmbjfgmdnaaGreatDoor
open Go.RowKit Go.Deep

theorem chF_q {c : UInt8} (h : c = 34 ∨ c = 92) : chF c = [92, c] := by unfold chF; rw [if_pos h]
theorem chF_n {c : UInt8} (h1 : ¬ (c = 34 ∨ c = 92)) (h2 : c ≠ 10) (h3 : c ≠ 9) : chF c = if 32 ≤ c.toNat ∧ c.toNat ≤ 126 then [c] else [92, 120, hexF (c.toNat / 16), hexF (c.toNat % 16)] := by unfold chF; rw [if_neg h1, if_neg h2, if_neg h3]

/-- bytes that lie in a block, made a string -/
theorem conv_run (W : World) (b : Nat) (bs : List UInt8) (n cap : Nat) (hn : bs.length = n) (hc : ∀ i (h : i < bs.length), W.cell? ⟨b, i, none⟩ = some (.int .u8 (bs[i].toNat : Int))) :
    (convert 62 9 (.slice (some ⟨b, 0, none⟩) n cap)).run Tryz.prog W = .ok (.string (bx bs)) W := by
  have hrun := run_convert_bytes_arg (P := Tryz.prog) W 62 5 Tryz.underlying62 Tryz.underlying5 b 0 n cap (bs.map fun b => (b.toNat : Int)) (by simpa using hn) (by
    intro i hi
    have hi' : i < bs.length := by simpa [hn] using hi
    rw [Nat.zero_add, hc i hi']
    simp [List.getD, hi']) 9 Tryz.underlying9
  rw [hrun]
  have : (strOfNums (bs.map fun b => (b.toNat : Int))).data.toList = bs := by
    rw [strOfNums_data, List.map_map]
    conv => rhs; rw [← List.map_id bs]
    apply List.map_congr_left
    intro b _
    simp
  rw [bytes_ext (y := bx bs) this]
theorem conv_new (W : World) (bs : List UInt8) : (convert 62 9 (.slice (some ⟨W.heap.size, 0, none⟩) bs.length bs.length)).run Tryz.prog (W.alloc (.cells (bs.map fun b => Value.int .u8 (b.toNat : Int)).toArray 5)) = .ok (.string (bx bs)) (W.alloc (.cells (bs.map fun b => Value.int .u8 (b.toNat : Int)).toArray 5)) :=
  conv_run _ _ bs _ _ rfl fun i h => by
    have := cell_of_blk (w := W.alloc (.cells (bs.map fun b => Value.int .u8 (b.toNat : Int)).toArray 5)) (hp_new (w := W) (o := .cells (bs.map fun b => Value.int .u8 (b.toNat : Int)).toArray 5) rfl) i
    rw [this]
    simp [h]

set_option maxRecDepth 100000 in
set_option maxHeartbeats 1600000 in
theorem rchar_any (c : UInt8) (w : World) : Calls Tryz.prog 91 #[.int .u8 (c.toNat : Nat)] w fun e w' => e = .returned (.string (bx (chF c))) ∧ Below w.heap.size w w' := by
  have HB : Hid (∀ (w1 : World) (o : Obj), Below w.heap.size w w1 → Below w.heap.size w (w1.alloc o)) := fun w1 o h => h.alloc h.size _
  have HB0 : Hid (Below w.heap.size w w) := Below.refl _ _
  have HD : Hid (∀ (w1 : World), Below w.heap.size w w1 → Below w.heap.size w w1.drew) := fun w1 h => h.drew
  by_cases h1 : c = 34
  · subst h1
    have hcv : Sem.run Tryz.prog (convert 62 9 (.slice (some ⟨w.heap.size, 0, none⟩) 2 2)) (w.alloc (.cells #[.int .u8 92, .int .u8 34] 5)) = .ok (.string (bx [92, 34])) (w.alloc (.cells #[.int .u8 92, .int .u8 34] 5)) := conv_new w [92, 34]
    as_aux_lemma =>
    go_enter Tryz.func91, Tryz.ntmps91
    go_wp2_with fail
    go_ret
    exact ⟨by rfl, HB.out _ _ HB0.out⟩
  by_cases h2 : c = 92
  · subst h2
    clear h1
    have hcv : Sem.run Tryz.prog (convert 62 9 (.slice (some ⟨w.heap.size, 0, none⟩) 2 2)) (w.alloc (.cells #[.int .u8 92, .int .u8 92] 5)) = .ok (.string (bx [92, 92])) (w.alloc (.cells #[.int .u8 92, .int .u8 92] 5)) := conv_new w [92, 92]
    as_aux_lemma =>
    go_enter Tryz.func91, Tryz.ntmps91
    go_wp2_with fail
    go_ret
    exact ⟨by rfl, HB.out _ _ HB0.out⟩
  by_cases h3 : c = 10
  · subst h3
    clear h1 h2
    have hcv : Sem.run Tryz.prog (convert 62 9 (.slice (some ⟨w.heap.size, 0, none⟩) 2 2)) (w.alloc (.cells #[.int .u8 92, .int .u8 110] 5)) = .ok (.string (bx [92, 110])) (w.alloc (.cells #[.int .u8 92, .int .u8 110] 5)) := conv_new w [92, 110]
    as_aux_lemma =>
    go_enter Tryz.func91, Tryz.ntmps91
    go_wp2_with fail
    go_ret
    exact ⟨by rfl, HB.out _ _ HB0.out⟩
  by_cases h4 : c = 9
  · subst h4
    clear h1 h2 h3
    have hcv : Sem.run Tryz.prog (convert 62 9 (.slice (some ⟨w.heap.size, 0, none⟩) 2 2)) (w.alloc (.cells #[.int .u8 92, .int .u8 116] 5)) = .ok (.string (bx [92, 116])) (w.alloc (.cells #[.int .u8 92, .int .u8 116] 5)) := conv_new w [92, 116]
    as_aux_lemma =>
    go_enter Tryz.func91, Tryz.ntmps91
    go_wp2_with fail
    go_ret
    exact ⟨by rfl, HB.out _ _ HB0.out⟩
  have n34 : ((c.toNat : Int) == 34) = false := by rw [beq_eq_false_iff_ne]; intro e; exact h1 (UInt8.toNat_inj.1 (by simpa using (by omega : c.toNat = 34)))
  have n92 : ((c.toNat : Int) == 92) = false := by rw [beq_eq_false_iff_ne]; intro e; exact h2 (UInt8.toNat_inj.1 (by simpa using (by omega : c.toNat = 92)))
  have n10 : ((c.toNat : Int) == 10) = false := by rw [beq_eq_false_iff_ne]; intro e; exact h3 (UInt8.toNat_inj.1 (by simpa using (by omega : c.toNat = 10)))
  have n9 : ((c.toNat : Int) == 9) = false := by rw [beq_eq_false_iff_ne]; intro e; exact h4 (UInt8.toNat_inj.1 (by simpa using (by omega : c.toNat = 9)))
  have HC := Lib.hid (chF_n (not_or.2 ⟨h1, h2⟩) h3 h4)
  have hc256 : c.toNat < 256 := c.toNat_lt
  clear h1 h2 h3 h4
  by_cases h32 : 32 ≤ c.toNat ∧ c.toNat ≤ 126
  · have HC := Lib.hid (HC.out.trans (if_pos h32))
    have p1 : (32 : Int) ≤ (c.toNat : Int) := by omega
    have p2 : (c.toNat : Int) ≤ 126 := by omega
    clear h32
    have hcv : Sem.run Tryz.prog (convert 62 9 (.slice (some ⟨w.heap.size, 0, none⟩) 1 1)) (w.alloc (.cells #[.int .u8 (c.toNat : Int)] 5)) = .ok (.string (bx [c])) (w.alloc (.cells #[.int .u8 (c.toNat : Int)] 5)) := conv_new w [c]
    as_aux_lemma =>
    go_enter Tryz.func91, Tryz.ntmps91
    go_wp2_with fail
    go_ret
    exact ⟨by rw [HC.out]; simp [bx], HB.out _ _ HB0.out⟩
  have HC := Lib.hid (HC.out.trans (if_neg h32))
  have qa : IntKind.u8.wrap ((c.toNat : Int) / 16) = ((c.toNat / 16 : Nat) : Int) := by unfold IntKind.wrap; simp [IntKind.bits, IntKind.signed]; omega
  have qb : (c.toNat : Int).tmod 16 = ((c.toNat % 16 : Nat) : Int) := by rw [Int.tmod_eq_emod_of_nonneg (by omega)]; omega
  have ha : c.toNat / 16 < 16 := by omega
  have hb : c.toNat % 16 < 16 := by omega
  generalize c.toNat / 16 = a at *
  generalize c.toNat % 16 = b at *
  have hai : (a : Int) < 16 := by omega
  have hbi : (b : Int) < 16 := by omega
  have hbi0 : (0 : Int) ≤ (b : Int) := by omega
  have hx1 := hex_byte a ha
  have hx2 := hex_byte b hb
  have HC : Hid (bx (chF c) = bx [92, 120, hexF a, hexF b]) := by unfold Hid; rw [HC.out]
  generalize hexF a = u at *
  generalize hexF b = v at *
  by_cases h31 : c.toNat < 32
  · have p1 : (c.toNat : Int) < 32 := by omega
    have p1' : ¬ (32 : Int) ≤ (c.toNat : Int) := by omega
    clear h32
    have hcv : Sem.run Tryz.prog (convert 62 9 (.slice (some ⟨w.heap.size, 0, none⟩) 4 4)) (w.alloc (.cells #[.int .u8 92, .int .u8 120, .int .u8 (u.toNat : Int), .int .u8 (v.toNat : Int)] 5)).drew = .ok (.string (bx [92, 120, u, v])) (w.alloc (.cells #[.int .u8 92, .int .u8 120, .int .u8 (u.toNat : Int), .int .u8 (v.toNat : Int)] 5)).drew := conv_new w.drew [92, 120, u, v]
    as_aux_lemma =>
    go_enter Tryz.func91, Tryz.ntmps91
    go_upto_region 12 with fail
    refine wp_region_Z (S := fun _ : World => True) 10 (by kernel_rfl) trivial (fun hHeld => ?_)
    refine wpAnyZ_takeL (i := 0) (v := ?_) rfl (by kernel_rfl) (by kernel_rfl) (by kernel_rfl) (by kernel_rfl) (fun _ _ _ h => h) (Or.inl ⟨by rfl, ?_⟩) (by assumption) ?_
    rotate_left
    · (intro w hSw; (try dsimp only at hSw); go_simp; try with_reducible rfl)
    try simp only [Act.put, List.setIfInBounds_toArray, List.set_cons_zero, List.set_cons_succ]
    refine wpAnyZ_takeL (i := 1) (v := ?_) rfl (by kernel_rfl) (by kernel_rfl) (by kernel_rfl) (by kernel_rfl) (fun _ _ _ h => h) (Or.inl ⟨by rfl, ?_⟩) (by assumption) ?_
    rotate_left
    · (intro w hSw; (try dsimp only at hSw); go_simp; try with_reducible rfl)
    try simp only [Act.put, List.setIfInBounds_toArray, List.set_cons_zero, List.set_cons_succ]
    refine wpAnyZ_takeL (i := 2) (v := ?_) rfl (by kernel_rfl) (by kernel_rfl) (by kernel_rfl) (by kernel_rfl) (fun _ _ _ h => h) (Or.inl ⟨by rfl, ?_⟩) (by assumption) ?_
    rotate_left
    · (intro w hSw; (try dsimp only at hSw); go_simp; try with_reducible rfl)
    try simp only [Act.put, List.setIfInBounds_toArray, List.set_cons_zero, List.set_cons_succ]
    refine wpAnyZ_takeL (i := 3) (v := ?_) rfl (by kernel_rfl) (by kernel_rfl) (by kernel_rfl) (by kernel_rfl) (fun _ _ _ h => h) (Or.inl ⟨by rfl, ?_⟩) (by assumption) ?_
    rotate_left
    · (intro w hSw; (try dsimp only at hSw); go_simp; try with_reducible rfl)
    try simp only [Act.put, List.setIfInBounds_toArray, List.set_cons_zero, List.set_cons_succ]
    refine wpAnyZ_takeL (i := 4) (v := ?_) rfl (by kernel_rfl) (by kernel_rfl) (by kernel_rfl) (by kernel_rfl) (fun _ _ _ h => h) (Or.inl ⟨by rfl, ?_⟩) (by assumption) ?_
    rotate_left
    · (intro w hSw; (try dsimp only at hSw); go_simp; try with_reducible rfl)
    try simp only [Act.put, List.setIfInBounds_toArray, List.set_cons_zero, List.set_cons_succ]
    refine wpAnyZ_takeL (i := 5) (v := ?_) rfl (by kernel_rfl) (by kernel_rfl) (by kernel_rfl) (by kernel_rfl) (fun _ _ _ h => h) (Or.inl ⟨by rfl, ?_⟩) (by assumption) ?_
    rotate_left
    · (intro w hSw; (try dsimp only at hSw); go_simp; try with_reducible rfl)
    try simp only [Act.put, List.setIfInBounds_toArray, List.set_cons_zero, List.set_cons_succ]
    refine wpAnyZ_takeL (i := 6) (v := ?_) rfl (by kernel_rfl) (by kernel_rfl) (by kernel_rfl) (by kernel_rfl) (fun _ _ _ h => h) (Or.inl ⟨by rfl, ?_⟩) (by assumption) ?_
    rotate_left
    · (intro w hSw; (try dsimp only at hSw); go_simp; try with_reducible rfl)
    try simp only [Act.put, List.setIfInBounds_toArray, List.set_cons_zero, List.set_cons_succ]
    refine wpAnyZ_takeL (i := 7) (v := ?_) rfl (by kernel_rfl) (by kernel_rfl) (by kernel_rfl) (by kernel_rfl) (fun _ _ _ h => h) (Or.inl ⟨by rfl, ?_⟩) (by assumption) ?_
    rotate_left
    · (intro w hSw; (try dsimp only at hSw); go_simp; try with_reducible rfl)
    try simp only [Act.put, List.setIfInBounds_toArray, List.set_cons_zero, List.set_cons_succ]
    refine wpAnyZ_oneL (i := 8) (by kernel_rfl) rfl (fun K hK => ?_)
    go_simp
    refine hK.out _ _ (fun _ => trivial) (fun hHeld => ?_)
    replace hHeld := hHeld (by decide)
    clear hK K
    try simp only [Act.put, List.setIfInBounds_toArray, List.set_cons_zero, List.set_cons_succ]
    refine wpAnyZ_oneL (i := 9) (by kernel_rfl) rfl (fun K hK => ?_)
    go_simp
    refine hK.out _ _ (fun _ => trivial) (fun hHeld => ?_)
    replace hHeld := hHeld (by decide)
    clear hK K
    try simp only [Act.put, List.setIfInBounds_toArray, List.set_cons_zero, List.set_cons_succ]
    refine wpAnyZ_oneL (i := 10) (by kernel_rfl) rfl (fun K hK => ?_)
    go_simp
    refine hK.out _ _ (fun h => absurd h (by decide)) (fun _ => ?_)
    clear hK K
    try simp only [Act.put, List.setIfInBounds_toArray, List.set_cons_zero, List.set_cons_succ]
    refine wpAnyZ_done (by kernel_rfl) ?_ _
    clear hHeld
    go_wp2_with fail
    go_ret
    exact ⟨by rw [HC.out] <;> rfl, HD.out _ (HB.out _ _ HB0.out)⟩
  · have p1 : (32 : Int) ≤ (c.toNat : Int) := by omega
    have p2 : (126 : Int) < (c.toNat : Int) := by omega
    have p2' : ¬ (c.toNat : Int) ≤ 126 := by omega
    clear h32
    have hcv : Sem.run Tryz.prog (convert 62 9 (.slice (some ⟨w.heap.size, 0, none⟩) 4 4)) (w.alloc (.cells #[.int .u8 92, .int .u8 120, .int .u8 (u.toNat : Int), .int .u8 (v.toNat : Int)] 5)).drew = .ok (.string (bx [92, 120, u, v])) (w.alloc (.cells #[.int .u8 92, .int .u8 120, .int .u8 (u.toNat : Int), .int .u8 (v.toNat : Int)] 5)).drew := conv_new w.drew [92, 120, u, v]
    as_aux_lemma =>
    go_enter Tryz.func91, Tryz.ntmps91
    go_upto_region 12 with fail
    refine wp_region_Z (S := fun _ : World => True) 10 (by kernel_rfl) trivial (fun hHeld => ?_)
    refine wpAnyZ_takeL (i := 0) (v := ?_) rfl (by kernel_rfl) (by kernel_rfl) (by kernel_rfl) (by kernel_rfl) (fun _ _ _ h => h) (Or.inl ⟨by rfl, ?_⟩) (by assumption) ?_
    rotate_left
    · (intro w hSw; (try dsimp only at hSw); go_simp; try with_reducible rfl)
    try simp only [Act.put, List.setIfInBounds_toArray, List.set_cons_zero, List.set_cons_succ]
    refine wpAnyZ_takeL (i := 1) (v := ?_) rfl (by kernel_rfl) (by kernel_rfl) (by kernel_rfl) (by kernel_rfl) (fun _ _ _ h => h) (Or.inl ⟨by rfl, ?_⟩) (by assumption) ?_
    rotate_left
    · (intro w hSw; (try dsimp only at hSw); go_simp; try with_reducible rfl)
    try simp only [Act.put, List.setIfInBounds_toArray, List.set_cons_zero, List.set_cons_succ]
    refine wpAnyZ_takeL (i := 2) (v := ?_) rfl (by kernel_rfl) (by kernel_rfl) (by kernel_rfl) (by kernel_rfl) (fun _ _ _ h => h) (Or.inl ⟨by rfl, ?_⟩) (by assumption) ?_
    rotate_left
    · (intro w hSw; (try dsimp only at hSw); go_simp; try with_reducible rfl)
    try simp only [Act.put, List.setIfInBounds_toArray, List.set_cons_zero, List.set_cons_succ]
    refine wpAnyZ_takeL (i := 3) (v := ?_) rfl (by kernel_rfl) (by kernel_rfl) (by kernel_rfl) (by kernel_rfl) (fun _ _ _ h => h) (Or.inl ⟨by rfl, ?_⟩) (by assumption) ?_
    rotate_left
    · (intro w hSw; (try dsimp only at hSw); go_simp; try with_reducible rfl)
    try simp only [Act.put, List.setIfInBounds_toArray, List.set_cons_zero, List.set_cons_succ]
    refine wpAnyZ_takeL (i := 4) (v := ?_) rfl (by kernel_rfl) (by kernel_rfl) (by kernel_rfl) (by kernel_rfl) (fun _ _ _ h => h) (Or.inl ⟨by rfl, ?_⟩) (by assumption) ?_
    rotate_left
    · (intro w hSw; (try dsimp only at hSw); go_simp; try with_reducible rfl)
    try simp only [Act.put, List.setIfInBounds_toArray, List.set_cons_zero, List.set_cons_succ]
    refine wpAnyZ_takeL (i := 5) (v := ?_) rfl (by kernel_rfl) (by kernel_rfl) (by kernel_rfl) (by kernel_rfl) (fun _ _ _ h => h) (Or.inl ⟨by rfl, ?_⟩) (by assumption) ?_
    rotate_left
    · (intro w hSw; (try dsimp only at hSw); go_simp; try with_reducible rfl)
    try simp only [Act.put, List.setIfInBounds_toArray, List.set_cons_zero, List.set_cons_succ]
    refine wpAnyZ_takeL (i := 6) (v := ?_) rfl (by kernel_rfl) (by kernel_rfl) (by kernel_rfl) (by kernel_rfl) (fun _ _ _ h => h) (Or.inl ⟨by rfl, ?_⟩) (by assumption) ?_
    rotate_left
    · (intro w hSw; (try dsimp only at hSw); go_simp; try with_reducible rfl)
    try simp only [Act.put, List.setIfInBounds_toArray, List.set_cons_zero, List.set_cons_succ]
    refine wpAnyZ_takeL (i := 7) (v := ?_) rfl (by kernel_rfl) (by kernel_rfl) (by kernel_rfl) (by kernel_rfl) (fun _ _ _ h => h) (Or.inl ⟨by rfl, ?_⟩) (by assumption) ?_
    rotate_left
    · (intro w hSw; (try dsimp only at hSw); go_simp; try with_reducible rfl)
    try simp only [Act.put, List.setIfInBounds_toArray, List.set_cons_zero, List.set_cons_succ]
    refine wpAnyZ_oneL (i := 8) (by kernel_rfl) rfl (fun K hK => ?_)
    go_simp
    refine hK.out _ _ (fun _ => trivial) (fun hHeld => ?_)
    replace hHeld := hHeld (by decide)
    clear hK K
    try simp only [Act.put, List.setIfInBounds_toArray, List.set_cons_zero, List.set_cons_succ]
    refine wpAnyZ_oneL (i := 9) (by kernel_rfl) rfl (fun K hK => ?_)
    go_simp
    refine hK.out _ _ (fun _ => trivial) (fun hHeld => ?_)
    replace hHeld := hHeld (by decide)
    clear hK K
    try simp only [Act.put, List.setIfInBounds_toArray, List.set_cons_zero, List.set_cons_succ]
    refine wpAnyZ_oneL (i := 10) (by kernel_rfl) rfl (fun K hK => ?_)
    go_simp
    refine hK.out _ _ (fun h => absurd h (by decide)) (fun _ => ?_)
    clear hK K
    try simp only [Act.put, List.setIfInBounds_toArray, List.set_cons_zero, List.set_cons_succ]
    refine wpAnyZ_done (by kernel_rfl) ?_ _
    clear hHeld
    go_wp2_with fail
    go_ret
    exact ⟨by rw [HC.out] <;> rfl, HD.out _ (HB.out _ _ HB0.out)⟩
end Go.Proofs.YtbndgmbjfgmdnaaGreatDoor
