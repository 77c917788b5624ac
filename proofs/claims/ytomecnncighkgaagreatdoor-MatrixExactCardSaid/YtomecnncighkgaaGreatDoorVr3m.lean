/- The walks over the reference's character and Quote. -/
import Derived.Test.YtomecnncighkgaaGreatDoorVq11m
import Derived.Test.YtomecnncighkgaaGreatDoorVa3
namespace Go.Proofs.YtomecnncighkgaaGreatDoor
open Go.RowKit Go.Deep

theorem chF_q {c : UInt8} (h : c = 34 ∨ c = 92) : chF c = [92, c] := by unfold chF; rw [if_pos h]
theorem chF_n {c : UInt8} (h1 : ¬ (c = 34 ∨ c = 92)) (h2 : c ≠ 10) (h3 : c ≠ 9) : chF c = if 32 ≤ c.toNat ∧ c.toNat ≤ 126 then [c] else [92, 120, hexF (c.toNat / 16), hexF (c.toNat % 16)] := by unfold chF; rw [if_neg h1, if_neg h2, if_neg h3]

/-- bytes that lie in a block, made a string -/
theorem conv_run (W : World) (b : Nat) (bs : List UInt8) (n cap : Nat) (hn : bs.length = n) (hc : ∀ i (h : i < bs.length), W.cell? ⟨b, i, none⟩ = some (.int .u8 (bs[i].toNat : Int))) :
    (convert 39 9 (.slice (some ⟨b, 0, none⟩) n cap)).run Tryz.prog W = .ok (.string (bx bs)) W := by
  have hrun := run_convert_bytes_arg (P := Tryz.prog) W 39 5 Tryz.underlying39 Tryz.underlying5 b 0 n cap (bs.map fun b => (b.toNat : Int)) (by simpa using hn) (by
    intro i hi
    have hi' : i < bs.length := by simpa [hn] using hi
    rw [Nat.zero_add, hc i hi']
    simp [List.getD, hi']) 9 Tryz.underlying9
  rw [hrun]
  have : (strOfNums (bs.map fun b => (b.toNat : Int))).data.toList = bs := by
    rw [strOfNums_data, List.map_map]
    conv => rhs; rw [← List.map_id bs]
    apply List.map_congr_left
    intro b _
    simp
  rw [bytes_ext (y := bx bs) this]
theorem conv_new (W : World) (bs : List UInt8) : (convert 39 9 (.slice (some ⟨W.heap.size, 0, none⟩) bs.length bs.length)).run Tryz.prog (W.alloc (.cells (bs.map fun b => Value.int .u8 (b.toNat : Int)).toArray 5)) = .ok (.string (bx bs)) (W.alloc (.cells (bs.map fun b => Value.int .u8 (b.toNat : Int)).toArray 5)) :=
  conv_run _ _ bs _ _ rfl fun i h => by
    have := cell_of_blk (w := W.alloc (.cells (bs.map fun b => Value.int .u8 (b.toNat : Int)).toArray 5)) (hp_new (w := W) (o := .cells (bs.map fun b => Value.int .u8 (b.toNat : Int)).toArray 5) rfl) i
    rw [this]
    simp [h]

set_option maxRecDepth 100000 in
set_option maxHeartbeats 1600000 in
theorem rchar_any (c : UInt8) (w : World) : Calls Tryz.prog 134 #[.int .u8 (c.toNat : Nat)] w fun e w' => e = .returned (.string (bx (chF c))) ∧ Below w.heap.size w w' := by
  have HB : Hid (∀ (w1 : World) (o : Obj), Below w.heap.size w w1 → Below w.heap.size w (w1.alloc o)) := fun w1 o h => h.alloc h.size _
  have HB0 : Hid (Below w.heap.size w w) := Below.refl _ _
  have HD : Hid (∀ (w1 : World), Below w.heap.size w w1 → Below w.heap.size w w1.drew) := fun w1 h => h.drew
  by_cases h1 : c = 34
  · subst h1
    have hcv : Sem.run Tryz.prog (convert 39 9 (.slice (some ⟨w.heap.size, 0, none⟩) 2 2)) (w.alloc (.cells #[.int .u8 92, .int .u8 34] 5)) = .ok (.string (bx [92, 34])) (w.alloc (.cells #[.int .u8 92, .int .u8 34] 5)) := conv_new w [92, 34]
    as_aux_lemma =>
    go_enter Tryz.func134, Tryz.ntmps134
    go_wp2_with fail
    go_ret
    exact ⟨by rfl, HB.out _ _ HB0.out⟩
  by_cases h2 : c = 92
  · subst h2
    clear h1
    have hcv : Sem.run Tryz.prog (convert 39 9 (.slice (some ⟨w.heap.size, 0, none⟩) 2 2)) (w.alloc (.cells #[.int .u8 92, .int .u8 92] 5)) = .ok (.string (bx [92, 92])) (w.alloc (.cells #[.int .u8 92, .int .u8 92] 5)) := conv_new w [92, 92]
    as_aux_lemma =>
    go_enter Tryz.func134, Tryz.ntmps134
    go_wp2_with fail
    go_ret
    exact ⟨by rfl, HB.out _ _ HB0.out⟩
  by_cases h3 : c = 10
  · subst h3
    clear h1 h2
    have hcv : Sem.run Tryz.prog (convert 39 9 (.slice (some ⟨w.heap.size, 0, none⟩) 2 2)) (w.alloc (.cells #[.int .u8 92, .int .u8 110] 5)) = .ok (.string (bx [92, 110])) (w.alloc (.cells #[.int .u8 92, .int .u8 110] 5)) := conv_new w [92, 110]
    as_aux_lemma =>
    go_enter Tryz.func134, Tryz.ntmps134
    go_wp2_with fail
    go_ret
    exact ⟨by rfl, HB.out _ _ HB0.out⟩
  by_cases h4 : c = 9
  · subst h4
    clear h1 h2 h3
    have hcv : Sem.run Tryz.prog (convert 39 9 (.slice (some ⟨w.heap.size, 0, none⟩) 2 2)) (w.alloc (.cells #[.int .u8 92, .int .u8 116] 5)) = .ok (.string (bx [92, 116])) (w.alloc (.cells #[.int .u8 92, .int .u8 116] 5)) := conv_new w [92, 116]
    as_aux_lemma =>
    go_enter Tryz.func134, Tryz.ntmps134
    go_wp2_with fail
    go_ret
    exact ⟨by rfl, HB.out _ _ HB0.out⟩
  have n34 : ((c.toNat : Int) == 34) = false := by rw [beq_eq_false_iff_ne]; intro e; exact h1 (UInt8.toNat_inj.1 (by simpa using (by omega : c.toNat = 34)))
  have n92 : ((c.toNat : Int) == 92) = false := by rw [beq_eq_false_iff_ne]; intro e; exact h2 (UInt8.toNat_inj.1 (by simpa using (by omega : c.toNat = 92)))
  have n10 : ((c.toNat : Int) == 10) = false := by rw [beq_eq_false_iff_ne]; intro e; exact h3 (UInt8.toNat_inj.1 (by simpa using (by omega : c.toNat = 10)))
  have n9 : ((c.toNat : Int) == 9) = false := by rw [beq_eq_false_iff_ne]; intro e; exact h4 (UInt8.toNat_inj.1 (by simpa using (by omega : c.toNat = 9)))
  have HC := Lib.hid (chF_n (not_or.2 ⟨h1, h2⟩) h3 h4)
  have hc256 : c.toNat < 256 := c.toNat_lt
  clear h1 h2 h3 h4
  by_cases h32 : 32 ≤ c.toNat ∧ c.toNat ≤ 126
  · have HC := Lib.hid (HC.out.trans (if_pos h32))
    have p1 : (32 : Int) ≤ (c.toNat : Int) := by omega
    have p2 : (c.toNat : Int) ≤ 126 := by omega
    clear h32
    have hcv : Sem.run Tryz.prog (convert 39 9 (.slice (some ⟨w.heap.size, 0, none⟩) 1 1)) (w.alloc (.cells #[.int .u8 (c.toNat : Int)] 5)) = .ok (.string (bx [c])) (w.alloc (.cells #[.int .u8 (c.toNat : Int)] 5)) := conv_new w [c]
    as_aux_lemma =>
    go_enter Tryz.func134, Tryz.ntmps134
    go_wp2_with fail
    go_ret
    exact ⟨by rw [HC.out]; simp [bx], HB.out _ _ HB0.out⟩
  have HC := Lib.hid (HC.out.trans (if_neg h32))
  have qa : IntKind.u8.wrap ((c.toNat : Int) / 16) = ((c.toNat / 16 : Nat) : Int) := by unfold IntKind.wrap; simp [IntKind.bits, IntKind.signed]; omega
  have qb : (c.toNat : Int).tmod 16 = ((c.toNat % 16 : Nat) : Int) := by rw [Int.tmod_eq_emod_of_nonneg (by omega)]; omega
  have ha : c.toNat / 16 < 16 := by omega
  have hb : c.toNat % 16 < 16 := by omega
  generalize c.toNat / 16 = a at *
  generalize c.toNat % 16 = b at *
  have hai : (a : Int) < 16 := by omega
  have hbi : (b : Int) < 16 := by omega
  have hbi0 : (0 : Int) ≤ (b : Int) := by omega
  have hx1 := hex_byte a ha
  have hx2 := hex_byte b hb
  have HC : Hid (bx (chF c) = bx [92, 120, hexF a, hexF b]) := by unfold Hid; rw [HC.out]
  generalize hexF a = u at *
  generalize hexF b = v at *
  by_cases h31 : c.toNat < 32
  · have p1 : (c.toNat : Int) < 32 := by omega
    have p1' : ¬ (32 : Int) ≤ (c.toNat : Int) := by omega
    clear h32
    have hcv : Sem.run Tryz.prog (convert 39 9 (.slice (some ⟨w.heap.size, 0, none⟩) 4 4)) (w.alloc (.cells #[.int .u8 92, .int .u8 120, .int .u8 (u.toNat : Int), .int .u8 (v.toNat : Int)] 5)).drew = .ok (.string (bx [92, 120, u, v])) (w.alloc (.cells #[.int .u8 92, .int .u8 120, .int .u8 (u.toNat : Int), .int .u8 (v.toNat : Int)] 5)).drew := conv_new w.drew [92, 120, u, v]
    as_aux_lemma =>
    go_enter Tryz.func134, Tryz.ntmps134
    go_upto_region 12 with fail
    refine wp_region_Z (S := fun _ : World => True) 10 (by kernel_rfl) trivial (fun hHeld => ?_)
    refine wpAnyZ_takeL (i := 0) (v := ?_) rfl (by kernel_rfl) (by kernel_rfl) (by kernel_rfl) (by kernel_rfl) (fun _ _ _ h => h) (Or.inl ⟨by rfl, ?_⟩) (by assumption) ?_
    rotate_left
    · (intro w hSw; (try dsimp only at hSw); go_simp; try with_reducible rfl)
    try simp only [Act.put, List.setIfInBounds_toArray, List.set_cons_zero, List.set_cons_succ]
    refine wpAnyZ_takeL (i := 1) (v := ?_) rfl (by kernel_rfl) (by kernel_rfl) (by kernel_rfl) (by kernel_rfl) (fun _ _ _ h => h) (Or.inl ⟨by rfl, ?_⟩) (by assumption) ?_
    rotate_left
    · (intro w hSw; (try dsimp only at hSw); go_simp; try with_reducible rfl)
    try simp only [Act.put, List.setIfInBounds_toArray, List.set_cons_zero, List.set_cons_succ]
    refine wpAnyZ_takeL (i := 2) (v := ?_) rfl (by kernel_rfl) (by kernel_rfl) (by kernel_rfl) (by kernel_rfl) (fun _ _ _ h => h) (Or.inl ⟨by rfl, ?_⟩) (by assumption) ?_
    rotate_left
    · (intro w hSw; (try dsimp only at hSw); go_simp; try with_reducible rfl)
    try simp only [Act.put, List.setIfInBounds_toArray, List.set_cons_zero, List.set_cons_succ]
    refine wpAnyZ_takeL (i := 3) (v := ?_) rfl (by kernel_rfl) (by kernel_rfl) (by kernel_rfl) (by kernel_rfl) (fun _ _ _ h => h) (Or.inl ⟨by rfl, ?_⟩) (by assumption) ?_
    rotate_left
    · (intro w hSw; (try dsimp only at hSw); go_simp; try with_reducible rfl)
    try simp only [Act.put, List.setIfInBounds_toArray, List.set_cons_zero, List.set_cons_succ]
    refine wpAnyZ_takeL (i := 4) (v := ?_) rfl (by kernel_rfl) (by kernel_rfl) (by kernel_rfl) (by kernel_rfl) (fun _ _ _ h => h) (Or.inl ⟨by rfl, ?_⟩) (by assumption) ?_
    rotate_left
    · (intro w hSw; (try dsimp only at hSw); go_simp; try with_reducible rfl)
    try simp only [Act.put, List.setIfInBounds_toArray, List.set_cons_zero, List.set_cons_succ]
    refine wpAnyZ_takeL (i := 5) (v := ?_) rfl (by kernel_rfl) (by kernel_rfl) (by kernel_rfl) (by kernel_rfl) (fun _ _ _ h => h) (Or.inl ⟨by rfl, ?_⟩) (by assumption) ?_
    rotate_left
    · (intro w hSw; (try dsimp only at hSw); go_simp; try with_reducible rfl)
    try simp only [Act.put, List.setIfInBounds_toArray, List.set_cons_zero, List.set_cons_succ]
    refine wpAnyZ_takeL (i := 6) (v := ?_) rfl (by kernel_rfl) (by kernel_rfl) (by kernel_rfl) (by kernel_rfl) (fun _ _ _ h => h) (Or.inl ⟨by rfl, ?_⟩) (by assumption) ?_
    rotate_left
    · (intro w hSw; (try dsimp only at hSw); go_simp; try with_reducible rfl)
    try simp only [Act.put, List.setIfInBounds_toArray, List.set_cons_zero, List.set_cons_succ]
    refine wpAnyZ_takeL (i := 7) (v := ?_) rfl (by kernel_rfl) (by kernel_rfl) (by kernel_rfl) (by kernel_rfl) (fun _ _ _ h => h) (Or.inl ⟨by rfl, ?_⟩) (by assumption) ?_
    rotate_left
    · (intro w hSw; (try dsimp only at hSw); go_simp; try with_reducible rfl)
    try simp only [Act.put, List.setIfInBounds_toArray, List.set_cons_zero, List.set_cons_succ]
    refine wpAnyZ_oneL (i := 8) (by kernel_rfl) rfl (fun K hK => ?_)
    go_simp
    refine hK.out _ _ (fun _ => trivial) (fun hHeld => ?_)
    replace hHeld := hHeld (by decide)
    clear hK K
    try simp only [Act.put, List.setIfInBounds_toArray, List.set_cons_zero, List.set_cons_succ]
    refine wpAnyZ_oneL (i := 9) (by kernel_rfl) rfl (fun K hK => ?_)
    go_simp
    refine hK.out _ _ (fun _ => trivial) (fun hHeld => ?_)
    replace hHeld := hHeld (by decide)
    clear hK K
    try simp only [Act.put, List.setIfInBounds_toArray, List.set_cons_zero, List.set_cons_succ]
    refine wpAnyZ_oneL (i := 10) (by kernel_rfl) rfl (fun K hK => ?_)
    go_simp
    refine hK.out _ _ (fun h => absurd h (by decide)) (fun _ => ?_)
    clear hK K
    try simp only [Act.put, List.setIfInBounds_toArray, List.set_cons_zero, List.set_cons_succ]
    refine wpAnyZ_done (by kernel_rfl) ?_ _
    clear hHeld
    go_wp2_with fail
    go_ret
    exact ⟨by rw [HC.out] <;> rfl, HD.out _ (HB.out _ _ HB0.out)⟩
  · have p1 : (32 : Int) ≤ (c.toNat : Int) := by omega
    have p2 : (126 : Int) < (c.toNat : Int) := by omega
    have p2' : ¬ (c.toNat : Int) ≤ 126 := by omega
    clear h32
    have hcv : Sem.run Tryz.prog (convert 39 9 (.slice (some ⟨w.heap.size, 0, none⟩) 4 4)) (w.alloc (.cells #[.int .u8 92, .int .u8 120, .int .u8 (u.toNat : Int), .int .u8 (v.toNat : Int)] 5)).drew = .ok (.string (bx [92, 120, u, v])) (w.alloc (.cells #[.int .u8 92, .int .u8 120, .int .u8 (u.toNat : Int), .int .u8 (v.toNat : Int)] 5)).drew := conv_new w.drew [92, 120, u, v]
    as_aux_lemma =>
    go_enter Tryz.func134, Tryz.ntmps134
    go_upto_region 12 with fail
    refine wp_region_Z (S := fun _ : World => True) 10 (by kernel_rfl) trivial (fun hHeld => ?_)
    refine wpAnyZ_takeL (i := 0) (v := ?_) rfl (by kernel_rfl) (by kernel_rfl) (by kernel_rfl) (by kernel_rfl) (fun _ _ _ h => h) (Or.inl ⟨by rfl, ?_⟩) (by assumption) ?_
    rotate_left
    · (intro w hSw; (try dsimp only at hSw); go_simp; try with_reducible rfl)
    try simp only [Act.put, List.setIfInBounds_toArray, List.set_cons_zero, List.set_cons_succ]
    refine wpAnyZ_takeL (i := 1) (v := ?_) rfl (by kernel_rfl) (by kernel_rfl) (by kernel_rfl) (by kernel_rfl) (fun _ _ _ h => h) (Or.inl ⟨by rfl, ?_⟩) (by assumption) ?_
    rotate_left
    · (intro w hSw; (try dsimp only at hSw); go_simp; try with_reducible rfl)
    try simp only [Act.put, List.setIfInBounds_toArray, List.set_cons_zero, List.set_cons_succ]
    refine wpAnyZ_takeL (i := 2) (v := ?_) rfl (by kernel_rfl) (by kernel_rfl) (by kernel_rfl) (by kernel_rfl) (fun _ _ _ h => h) (Or.inl ⟨by rfl, ?_⟩) (by assumption) ?_
    rotate_left
    · (intro w hSw; (try dsimp only at hSw); go_simp; try with_reducible rfl)
    try simp only [Act.put, List.setIfInBounds_toArray, List.set_cons_zero, List.set_cons_succ]
    refine wpAnyZ_takeL (i := 3) (v := ?_) rfl (by kernel_rfl) (by kernel_rfl) (by kernel_rfl) (by kernel_rfl) (fun _ _ _ h => h) (Or.inl ⟨by rfl, ?_⟩) (by assumption) ?_
    rotate_left
    · (intro w hSw; (try dsimp only at hSw); go_simp; try with_reducible rfl)
    try simp only [Act.put, List.setIfInBounds_toArray, List.set_cons_zero, List.set_cons_succ]
    refine wpAnyZ_takeL (i := 4) (v := ?_) rfl (by kernel_rfl) (by kernel_rfl) (by kernel_rfl) (by kernel_rfl) (fun _ _ _ h => h) (Or.inl ⟨by rfl, ?_⟩) (by assumption) ?_
    rotate_left
    · (intro w hSw; (try dsimp only at hSw); go_simp; try with_reducible rfl)
    try simp only [Act.put, List.setIfInBounds_toArray, List.set_cons_zero, List.set_cons_succ]
    refine wpAnyZ_takeL (i := 5) (v := ?_) rfl (by kernel_rfl) (by kernel_rfl) (by kernel_rfl) (by kernel_rfl) (fun _ _ _ h => h) (Or.inl ⟨by rfl, ?_⟩) (by assumption) ?_
    rotate_left
    · (intro w hSw; (try dsimp only at hSw); go_simp; try with_reducible rfl)
    try simp only [Act.put, List.setIfInBounds_toArray, List.set_cons_zero, List.set_cons_succ]
    refine wpAnyZ_takeL (i := 6) (v := ?_) rfl (by kernel_rfl) (by kernel_rfl) (by kernel_rfl) (by kernel_rfl) (fun _ _ _ h => h) (Or.inl ⟨by rfl, ?_⟩) (by assumption) ?_
    rotate_left
    · (intro w hSw; (try dsimp only at hSw); go_simp; try with_reducible rfl)
    try simp only [Act.put, List.setIfInBounds_toArray, List.set_cons_zero, List.set_cons_succ]
    refine wpAnyZ_takeL (i := 7) (v := ?_) rfl (by kernel_rfl) (by kernel_rfl) (by kernel_rfl) (by kernel_rfl) (fun _ _ _ h => h) (Or.inl ⟨by rfl, ?_⟩) (by assumption) ?_
    rotate_left
    · (intro w hSw; (try dsimp only at hSw); go_simp; try with_reducible rfl)
    try simp only [Act.put, List.setIfInBounds_toArray, List.set_cons_zero, List.set_cons_succ]
    refine wpAnyZ_oneL (i := 8) (by kernel_rfl) rfl (fun K hK => ?_)
    go_simp
    refine hK.out _ _ (fun _ => trivial) (fun hHeld => ?_)
    replace hHeld := hHeld (by decide)
    clear hK K
    try simp only [Act.put, List.setIfInBounds_toArray, List.set_cons_zero, List.set_cons_succ]
    refine wpAnyZ_oneL (i := 9) (by kernel_rfl) rfl (fun K hK => ?_)
    go_simp
    refine hK.out _ _ (fun _ => trivial) (fun hHeld => ?_)
    replace hHeld := hHeld (by decide)
    clear hK K
    try simp only [Act.put, List.setIfInBounds_toArray, List.set_cons_zero, List.set_cons_succ]
    refine wpAnyZ_oneL (i := 10) (by kernel_rfl) rfl (fun K hK => ?_)
    go_simp
    refine hK.out _ _ (fun h => absurd h (by decide)) (fun _ => ?_)
    clear hK K
    try simp only [Act.put, List.setIfInBounds_toArray, List.set_cons_zero, List.set_cons_succ]
    refine wpAnyZ_done (by kernel_rfl) ?_ _
    clear hHeld
    go_wp2_with fail
    go_ret
    exact ⟨by rw [HC.out] <;> rfl, HD.out _ (HB.out _ _ HB0.out)⟩
end Go.Proofs.YtomecnncighkgaaGreatDoor
/- The walk over the reference's Decimal. -/
namespace Go.Proofs.YtomecnncighkgaaGreatDoor
open Go.RowKit Go.Deep

section
variable {P : Program} {md : Region.Mode} {ops : Array Oper} {Q : Exit → Act → World → Prop} {S : World → Prop} {z : Nat}
/-- two operations may come up -/
theorem wpAnyZ_two {i j : Nat} {o p : Oper} {n : Nat} {listed : Array Bool} {a : Act} {w : World} (hr : Region.ready md ops listed = [i, j]) (ho : ops.toList[i]? = some o) (hp : ops.toList[j]? = some p)
    (h : ∀ K' : Act → World → Prop, Shut (∀ a w, (i < z → S w) → ((i < z → S w) → wpAnyZ P md ops Q S z n (listed.setIfInBounds i true) a w) → K' a w) → if Region.wanted o (yielded ops a.tmps) = true then Oper.wp P o a w K' Q else K' (a.put o.dst undef) w)
    (k : ∀ K' : Act → World → Prop, Shut (∀ a w, (j < z → S w) → ((j < z → S w) → wpAnyZ P md ops Q S z n (listed.setIfInBounds j true) a w) → K' a w) → if Region.wanted p (yielded ops a.tmps) = true then Oper.wp P p a w K' Q else K' (a.put p.dst undef) w) :
    wpAnyZ P md ops Q S z (n + 1) listed a w :=
  ⟨fun h0 => (by rw [hr] at h0; cases h0), fun x hx => by
    rw [hr] at hx
    rcases List.mem_cons.1 hx with rfl | hx
    · exact wpOp_step (at_list ho) (fun K' hK => h K' (fun a w hS hW => hK a w ⟨hS, hW hS⟩))
    · rw [List.mem_singleton.1 hx]
      exact wpOp_step (at_list hp) (fun K' hK => k K' (fun a w hS hW => hK a w ⟨hS, hW hS⟩))⟩
end
def DecCalls (n : Int) : Prop := ∀ W, Calls Tryz.prog 102 #[.int .i64 n] W fun e w' => e = .returned (.string (bx (Lib.itoa n))) ∧ Below W.heap.size W w'
/-- a byte that lies in a block below -/
theorem conv_kept (W W' : World) (u : UInt8) (h : Below (W.heap.size + 1) (W.alloc (.cells #[.int .u8 (u.toNat : Int)] 5)) W') : (convert 39 9 (.slice (some ⟨W.heap.size, 0, none⟩) 1 1)).run Tryz.prog W' = .ok (.string (bx [u])) W' :=
  conv_run W' _ [u] 1 1 rfl fun i hi => by
    have h0 : i = 0 := by have : i < 1 := hi; omega
    subst h0
    exact (h.cell (p := ⟨W.heap.size, 0, none⟩) (by show W.heap.size < _; omega)).trans (cell_of_blk (hp_new rfl) 0)

set_option maxRecDepth 100000 in
set_option maxHeartbeats 3200000 in
theorem dec_pos (n n1 n2 : Int) (u : UInt8) (q : List UInt8) (h10 : 10 ≤ n) (hn : n ≤ 9223372036854775807) (qa : n.tdiv 10 = n1) (qd : n.tmod 10 = n2) (qu : 48 + n2 = (u.toNat : Int)) (hn2 : 0 ≤ n2 ∧ n2 < 10) (hq : q.length ≤ 30)
    (ih : ∀ W, Calls Tryz.prog 102 #[.int .i64 n1] W fun e w' => e = .returned (.string (bx q)) ∧ Below W.heap.size W w') (w : World) :
    Calls Tryz.prog 102 #[.int .i64 n] w fun e w' => e = .returned (.string (bx (q ++ [u]))) ∧ Below w.heap.size w w' := by
  have IH := Lib.hid ih
  have qa' : n / 10 = n1 := by rw [← qa, Int.tdiv_eq_ediv_of_nonneg (by omega)]
  have qd' : n % 10 = n2 := by rw [← qd, Int.tmod_eq_emod_of_nonneg (by omega)]
  have t1 : ¬ n < 0 := by omega
  have t2 : ¬ n < 10 := by omega
  have hu : u.toNat < 256 := u.toNat_lt
  have hn1 : -1000000000000000000 ≤ n1 ∧ n1 ≤ 1000000000000000000 := by rw [← qa]; rw [Int.tdiv_eq_ediv_of_nonneg (by omega)]; omega
  have qw1 : IntKind.i64.wrap n1 = n1 := IntWalk.i64_in n1 (by omega)
  have qw2 : IntKind.i64.wrap (u.toNat : Int) = (u.toNat : Int) := IntWalk.i64_in _ (by omega)
  have qw3 : IntKind.u8.wrap (u.toNat : Int) = (u.toNat : Int) := IntWalk.u8_in _ (by omega)
  have hcat : (bx q ++ bx [u]) = bx (q ++ [u]) := bx_app _ _
  have HCAT := Lib.hid hcat
  have hsz : (bx q).size ≤ 30 := hq
  have hsz1 : (bx [u]).size = 1 := rfl
  obtain ⟨wd, hwd⟩ : ∃ wd, w.drew = wd := ⟨_, rfl⟩
  have hsd : wd.heap.size = w.heap.size := by rw [← hwd]; rfl
  have HBD : Hid (Below w.heap.size w wd) := by unfold Hid; rw [← hwd]; exact (Below.refl _ _).drew
  have HCN := Lib.hid (fun W => conv_new W [u])
  have HCK := Lib.hid (fun W W' => conv_kept W W' u)
  clear ih hcat hq
  generalize bx [u] = ub at *
  generalize bx (q ++ [u]) = res at *
  generalize bx q = qb at *
  go_enter Tryz.func102, Tryz.ntmps102
  go_upto_region 7 with fail
  refine wp_region_Z (S := fun _ : World => True) 10 (by kernel_rfl) trivial (fun hHeld => ?_)
  refine wpAnyZ_takeL (i := 0) (v := ?_) rfl (by kernel_rfl) (by kernel_rfl) (by kernel_rfl) (by kernel_rfl) (fun _ _ _ h => h) (Or.inl ⟨by rfl, ?_⟩) (by assumption) ?_
  rotate_left
  · (intro w hSw; (try dsimp only at hSw); go_simp; try with_reducible rfl)
  try simp only [Act.put, List.setIfInBounds_toArray, List.set_cons_zero, List.set_cons_succ]
  refine wpAnyZ_takeL (i := 1) (v := ?_) rfl (by kernel_rfl) (by kernel_rfl) (by kernel_rfl) (by kernel_rfl) (fun _ _ _ h => h) (Or.inl ⟨by rfl, ?_⟩) (by assumption) ?_
  rotate_left
  · (intro w hSw; (try dsimp only at hSw); go_simp; try with_reducible rfl)
  try simp only [Act.put, List.setIfInBounds_toArray, List.set_cons_zero, List.set_cons_succ]
  refine wpAnyZ_takeL (i := 3) (v := ?_) rfl (by kernel_rfl) (by kernel_rfl) (by kernel_rfl) (by kernel_rfl) (fun _ _ _ h => h) (Or.inl ⟨by rfl, ?_⟩) (by assumption) ?_
  rotate_left
  · (intro w hSw; (try dsimp only at hSw); go_simp; try with_reducible rfl)
  try simp only [Act.put, List.setIfInBounds_toArray, List.set_cons_zero, List.set_cons_succ]
  refine wpAnyZ_takeL (i := 4) (v := ?_) rfl (by kernel_rfl) (by kernel_rfl) (by kernel_rfl) (by kernel_rfl) (fun _ _ _ h => h) (Or.inl ⟨by rfl, ?_⟩) (by assumption) ?_
  rotate_left
  · (intro w hSw; (try dsimp only at hSw); go_simp; try with_reducible rfl)
  try simp only [Act.put, List.setIfInBounds_toArray, List.set_cons_zero, List.set_cons_succ]
  refine wpAnyZ_takeL (i := 5) (v := ?_) rfl (by kernel_rfl) (by kernel_rfl) (by kernel_rfl) (by kernel_rfl) (fun _ _ _ h => h) (Or.inl ⟨by rfl, ?_⟩) (by assumption) ?_
  rotate_left
  · (intro w hSw; (try dsimp only at hSw); go_simp; try with_reducible rfl)
  try simp only [Act.put, List.setIfInBounds_toArray, List.set_cons_zero, List.set_cons_succ]
  refine wpAnyZ_takeL (i := 6) (v := ?_) rfl (by kernel_rfl) (by kernel_rfl) (by kernel_rfl) (by kernel_rfl) (fun _ _ _ h => h) (Or.inl ⟨by rfl, ?_⟩) (by assumption) ?_
  rotate_left
  · (intro w hSw; (try dsimp only at hSw); go_simp; try with_reducible rfl)
  try simp only [Act.put, List.setIfInBounds_toArray, List.set_cons_zero, List.set_cons_succ]
  rw [hwd]
  clear hwd
  refine wpAnyZ_two (i := 2) (j := 7) (by kernel_rfl) rfl rfl (fun K hK => ?_) (fun K hK => ?_)
  · go_simp
    go_at_call 102
    refine (IH.out wd).mono ?_
    rintro e w6 ⟨rfl, hb6⟩
    have hs6 := hb6.size
    have HB6 : Hid (Below w.heap.size w w6) := HBD.out.trans (hb6.mono HBD.out.size)
    clear hb6
    refine hK.out _ _ (fun _ => trivial) (fun hHeld => ?_)
    replace hHeld := hHeld (by decide)
    clear hK K
    try simp only [Act.put, List.setIfInBounds_toArray, List.set_cons_zero, List.set_cons_succ]
    refine wpAnyZ_oneL (i := 7) (by kernel_rfl) rfl (fun K hK => ?_)
    go_simp
    refine hK.out _ _ (fun _ => trivial) (fun hHeld => ?_)
    replace hHeld := hHeld (by decide)
    clear hK K
    try simp only [Act.put, List.setIfInBounds_toArray, List.set_cons_zero, List.set_cons_succ]
    have hcv : Sem.run Tryz.prog (convert 39 9 (.slice (some ⟨w6.heap.size, 0, none⟩) 1 1)) (w6.alloc (.cells #[.int .u8 (u.toNat : Int)] 5)) = .ok (.string ub) (w6.alloc (.cells #[.int .u8 (u.toNat : Int)] 5)) := HCN.out w6
    refine wpAnyZ_oneL (i := 8) (by kernel_rfl) rfl (fun K hK => ?_)
    go_simp
    refine hK.out _ _ (fun _ => trivial) (fun hHeld => ?_)
    replace hHeld := hHeld (by decide)
    clear hK K
    try simp only [Act.put, List.setIfInBounds_toArray, List.set_cons_zero, List.set_cons_succ]
    refine wpAnyZ_oneL (i := 9) (by kernel_rfl) rfl (fun K hK => ?_)
    go_simp
    rw [if_neg (by omega)]
    refine hK.out _ _ (fun _ => trivial) (fun hHeld => ?_)
    replace hHeld := hHeld (by decide)
    clear hK K
    try simp only [Act.put, List.setIfInBounds_toArray, List.set_cons_zero, List.set_cons_succ]
    refine wpAnyZ_oneL (i := 10) (by kernel_rfl) rfl (fun K hK => ?_)
    go_simp
    refine hK.out _ _ (fun h => absurd h (by decide)) (fun _ => ?_)
    clear hK K
    try simp only [Act.put, List.setIfInBounds_toArray, List.set_cons_zero, List.set_cons_succ]
    refine wpAnyZ_done (by kernel_rfl) ?_ _
    clear hHeld
    go_wp2_with fail
    go_ret
    exact ⟨by rw [HCAT.out] <;> rfl, HB6.out.alloc HB6.out.size _⟩
  · go_simp
    refine hK.out _ _ (fun _ => trivial) (fun hHeld => ?_)
    replace hHeld := hHeld (by decide)
    clear hK K
    try simp only [Act.put, List.setIfInBounds_toArray, List.set_cons_zero, List.set_cons_succ]
    refine wpAnyZ_two (i := 2) (j := 8) (by kernel_rfl) rfl rfl (fun K hK => ?_) (fun K hK => ?_)
    · go_simp
      go_at_call 102
      refine (IH.out _).mono ?_
      rintro e w6 ⟨rfl, hb6⟩
      have hb7 : Below (wd.heap.size + 1) (wd.alloc (.cells #[.int .u8 (u.toNat : Int)] 5)) w6 := hb6.mono (by simp)
      have hcv : Sem.run Tryz.prog (convert 39 9 (.slice (some ⟨wd.heap.size, 0, none⟩) 1 1)) w6 = .ok (.string ub) w6 := HCK.out wd w6 hb7
      have HB6 : Hid (Below w.heap.size w w6) := (HBD.out.alloc HBD.out.size _).trans (hb7.mono (by omega))
      rw [hsd] at hcv
      clear hb6 hb7
      refine hK.out _ _ (fun _ => trivial) (fun hHeld => ?_)
      replace hHeld := hHeld (by decide)
      clear hK K
      try simp only [Act.put, List.setIfInBounds_toArray, List.set_cons_zero, List.set_cons_succ]
      refine wpAnyZ_oneL (i := 8) (by kernel_rfl) rfl (fun K hK => ?_)
      go_simp
      refine hK.out _ _ (fun _ => trivial) (fun hHeld => ?_)
      replace hHeld := hHeld (by decide)
      clear hK K
      try simp only [Act.put, List.setIfInBounds_toArray, List.set_cons_zero, List.set_cons_succ]
      refine wpAnyZ_oneL (i := 9) (by kernel_rfl) rfl (fun K hK => ?_)
      go_simp
      rw [if_neg (by omega)]
      refine hK.out _ _ (fun _ => trivial) (fun hHeld => ?_)
      replace hHeld := hHeld (by decide)
      clear hK K
      try simp only [Act.put, List.setIfInBounds_toArray, List.set_cons_zero, List.set_cons_succ]
      refine wpAnyZ_oneL (i := 10) (by kernel_rfl) rfl (fun K hK => ?_)
      go_simp
      refine hK.out _ _ (fun h => absurd h (by decide)) (fun _ => ?_)
      clear hK K
      try simp only [Act.put, List.setIfInBounds_toArray, List.set_cons_zero, List.set_cons_succ]
      refine wpAnyZ_done (by kernel_rfl) ?_ _
      clear hHeld
      go_wp2_with fail
      go_ret
      exact ⟨by rw [HCAT.out] <;> rfl, HB6.out⟩
    · have hcv : Sem.run Tryz.prog (convert 39 9 (.slice (some ⟨wd.heap.size, 0, none⟩) 1 1)) (wd.alloc (.cells #[.int .u8 (u.toNat : Int)] 5)) = .ok (.string ub) (wd.alloc (.cells #[.int .u8 (u.toNat : Int)] 5)) := HCN.out wd
      rw [hsd] at hcv
      go_simp
      refine hK.out _ _ (fun _ => trivial) (fun hHeld => ?_)
      replace hHeld := hHeld (by decide)
      clear hK K
      try simp only [Act.put, List.setIfInBounds_toArray, List.set_cons_zero, List.set_cons_succ]
      refine wpAnyZ_oneL (i := 2) (by kernel_rfl) rfl (fun K hK => ?_)
      go_simp
      go_at_call 102
      refine (IH.out _).mono ?_
      rintro e w6 ⟨rfl, hb6⟩
      have HB6 : Hid (Below w.heap.size w w6) := (HBD.out.alloc HBD.out.size _).trans (hb6.mono (by simp; omega))
      clear hb6 hcv
      refine hK.out _ _ (fun _ => trivial) (fun hHeld => ?_)
      replace hHeld := hHeld (by decide)
      clear hK K
      try simp only [Act.put, List.setIfInBounds_toArray, List.set_cons_zero, List.set_cons_succ]
      refine wpAnyZ_oneL (i := 9) (by kernel_rfl) rfl (fun K hK => ?_)
      go_simp
      rw [if_neg (by omega)]
      refine hK.out _ _ (fun _ => trivial) (fun hHeld => ?_)
      replace hHeld := hHeld (by decide)
      clear hK K
      try simp only [Act.put, List.setIfInBounds_toArray, List.set_cons_zero, List.set_cons_succ]
      refine wpAnyZ_oneL (i := 10) (by kernel_rfl) rfl (fun K hK => ?_)
      go_simp
      refine hK.out _ _ (fun h => absurd h (by decide)) (fun _ => ?_)
      clear hK K
      try simp only [Act.put, List.setIfInBounds_toArray, List.set_cons_zero, List.set_cons_succ]
      refine wpAnyZ_done (by kernel_rfl) ?_ _
      clear hHeld
      go_wp2_with fail
      go_ret
      exact ⟨by rw [HCAT.out] <;> rfl, HB6.out⟩
set_option maxRecDepth 100000 in
set_option maxHeartbeats 3200000 in
theorem dec_neg (n n1 n2 : Int) (u : UInt8) (q : List UInt8) (h10 : n ≤ -10) (hn : -9223372036854775808 ≤ n) (qa : n.tdiv 10 = n1) (qd : n.tmod 10 = n2) (qu : 48 - n2 = (u.toNat : Int)) (hn2 : -10 < n2 ∧ n2 ≤ 0) (hq : q.length ≤ 30)
    (ih : ∀ W, Calls Tryz.prog 102 #[.int .i64 n1] W fun e w' => e = .returned (.string (bx q)) ∧ Below W.heap.size W w') (w : World) :
    Calls Tryz.prog 102 #[.int .i64 n] w fun e w' => e = .returned (.string (bx (q ++ [u]))) ∧ Below w.heap.size w w' := by
  have IH := Lib.hid ih
  have t1 : n < 0 := by omega
  have t2 : ¬ (-10 : Int) < n := by omega
  have hu : u.toNat < 256 := u.toNat_lt
  have hn1 : -1000000000000000000 ≤ n1 ∧ n1 ≤ 1000000000000000000 := by rw [← qa]; (have hk : (-(-n)).tdiv 10 = -((-n) / 10) := by rw [Int.neg_tdiv, Int.tdiv_eq_ediv_of_nonneg (by omega)]); rw [Int.neg_neg] at hk; rw [hk]; omega
  have qw1 : IntKind.i64.wrap n1 = n1 := IntWalk.i64_in n1 (by omega)
  have qw2 : IntKind.i64.wrap (u.toNat : Int) = (u.toNat : Int) := IntWalk.i64_in _ (by omega)
  have qw3 : IntKind.u8.wrap (u.toNat : Int) = (u.toNat : Int) := IntWalk.u8_in _ (by omega)
  have hcat : (bx q ++ bx [u]) = bx (q ++ [u]) := bx_app _ _
  have HCAT := Lib.hid hcat
  have hsz : (bx q).size ≤ 30 := hq
  have hsz1 : (bx [u]).size = 1 := rfl
  obtain ⟨wd, hwd⟩ : ∃ wd, w.drew = wd := ⟨_, rfl⟩
  have hsd : wd.heap.size = w.heap.size := by rw [← hwd]; rfl
  have HBD : Hid (Below w.heap.size w wd) := by unfold Hid; rw [← hwd]; exact (Below.refl _ _).drew
  have HCN := Lib.hid (fun W => conv_new W [u])
  have HCK := Lib.hid (fun W W' => conv_kept W W' u)
  clear ih hcat hq
  generalize bx [u] = ub at *
  generalize bx (q ++ [u]) = res at *
  generalize bx q = qb at *
  go_enter Tryz.func102, Tryz.ntmps102
  go_upto_region 4 with fail
  refine wp_region_Z (S := fun _ : World => True) 10 (by kernel_rfl) trivial (fun hHeld => ?_)
  refine wpAnyZ_takeL (i := 0) (v := ?_) rfl (by kernel_rfl) (by kernel_rfl) (by kernel_rfl) (by kernel_rfl) (fun _ _ _ h => h) (Or.inl ⟨by rfl, ?_⟩) (by assumption) ?_
  rotate_left
  · (intro w hSw; (try dsimp only at hSw); go_simp; try with_reducible rfl)
  try simp only [Act.put, List.setIfInBounds_toArray, List.set_cons_zero, List.set_cons_succ]
  refine wpAnyZ_takeL (i := 1) (v := ?_) rfl (by kernel_rfl) (by kernel_rfl) (by kernel_rfl) (by kernel_rfl) (fun _ _ _ h => h) (Or.inl ⟨by rfl, ?_⟩) (by assumption) ?_
  rotate_left
  · (intro w hSw; (try dsimp only at hSw); go_simp; try with_reducible rfl)
  try simp only [Act.put, List.setIfInBounds_toArray, List.set_cons_zero, List.set_cons_succ]
  refine wpAnyZ_takeL (i := 3) (v := ?_) rfl (by kernel_rfl) (by kernel_rfl) (by kernel_rfl) (by kernel_rfl) (fun _ _ _ h => h) (Or.inl ⟨by rfl, ?_⟩) (by assumption) ?_
  rotate_left
  · (intro w hSw; (try dsimp only at hSw); go_simp; try with_reducible rfl)
  try simp only [Act.put, List.setIfInBounds_toArray, List.set_cons_zero, List.set_cons_succ]
  refine wpAnyZ_takeL (i := 4) (v := ?_) rfl (by kernel_rfl) (by kernel_rfl) (by kernel_rfl) (by kernel_rfl) (fun _ _ _ h => h) (Or.inl ⟨by rfl, ?_⟩) (by assumption) ?_
  rotate_left
  · (intro w hSw; (try dsimp only at hSw); go_simp; try with_reducible rfl)
  try simp only [Act.put, List.setIfInBounds_toArray, List.set_cons_zero, List.set_cons_succ]
  refine wpAnyZ_takeL (i := 5) (v := ?_) rfl (by kernel_rfl) (by kernel_rfl) (by kernel_rfl) (by kernel_rfl) (fun _ _ _ h => h) (Or.inl ⟨by rfl, ?_⟩) (by assumption) ?_
  rotate_left
  · (intro w hSw; (try dsimp only at hSw); go_simp; try with_reducible rfl)
  try simp only [Act.put, List.setIfInBounds_toArray, List.set_cons_zero, List.set_cons_succ]
  refine wpAnyZ_takeL (i := 6) (v := ?_) rfl (by kernel_rfl) (by kernel_rfl) (by kernel_rfl) (by kernel_rfl) (fun _ _ _ h => h) (Or.inl ⟨by rfl, ?_⟩) (by assumption) ?_
  rotate_left
  · (intro w hSw; (try dsimp only at hSw); go_simp; try with_reducible rfl)
  try simp only [Act.put, List.setIfInBounds_toArray, List.set_cons_zero, List.set_cons_succ]
  rw [hwd]
  clear hwd
  refine wpAnyZ_two (i := 2) (j := 7) (by kernel_rfl) rfl rfl (fun K hK => ?_) (fun K hK => ?_)
  · go_simp
    go_at_call 102
    refine (IH.out wd).mono ?_
    rintro e w6 ⟨rfl, hb6⟩
    have hs6 := hb6.size
    have HB6 : Hid (Below w.heap.size w w6) := HBD.out.trans (hb6.mono HBD.out.size)
    clear hb6
    refine hK.out _ _ (fun _ => trivial) (fun hHeld => ?_)
    replace hHeld := hHeld (by decide)
    clear hK K
    try simp only [Act.put, List.setIfInBounds_toArray, List.set_cons_zero, List.set_cons_succ]
    refine wpAnyZ_oneL (i := 7) (by kernel_rfl) rfl (fun K hK => ?_)
    go_simp
    refine hK.out _ _ (fun _ => trivial) (fun hHeld => ?_)
    replace hHeld := hHeld (by decide)
    clear hK K
    try simp only [Act.put, List.setIfInBounds_toArray, List.set_cons_zero, List.set_cons_succ]
    have hcv : Sem.run Tryz.prog (convert 39 9 (.slice (some ⟨w6.heap.size, 0, none⟩) 1 1)) (w6.alloc (.cells #[.int .u8 (u.toNat : Int)] 5)) = .ok (.string ub) (w6.alloc (.cells #[.int .u8 (u.toNat : Int)] 5)) := HCN.out w6
    refine wpAnyZ_oneL (i := 8) (by kernel_rfl) rfl (fun K hK => ?_)
    go_simp
    refine hK.out _ _ (fun _ => trivial) (fun hHeld => ?_)
    replace hHeld := hHeld (by decide)
    clear hK K
    try simp only [Act.put, List.setIfInBounds_toArray, List.set_cons_zero, List.set_cons_succ]
    refine wpAnyZ_oneL (i := 9) (by kernel_rfl) rfl (fun K hK => ?_)
    go_simp
    rw [if_neg (by omega)]
    refine hK.out _ _ (fun _ => trivial) (fun hHeld => ?_)
    replace hHeld := hHeld (by decide)
    clear hK K
    try simp only [Act.put, List.setIfInBounds_toArray, List.set_cons_zero, List.set_cons_succ]
    refine wpAnyZ_oneL (i := 10) (by kernel_rfl) rfl (fun K hK => ?_)
    go_simp
    refine hK.out _ _ (fun h => absurd h (by decide)) (fun _ => ?_)
    clear hK K
    try simp only [Act.put, List.setIfInBounds_toArray, List.set_cons_zero, List.set_cons_succ]
    refine wpAnyZ_done (by kernel_rfl) ?_ _
    clear hHeld
    go_wp2_with fail
    go_ret
    exact ⟨by rw [HCAT.out] <;> rfl, HB6.out.alloc HB6.out.size _⟩
  · go_simp
    refine hK.out _ _ (fun _ => trivial) (fun hHeld => ?_)
    replace hHeld := hHeld (by decide)
    clear hK K
    try simp only [Act.put, List.setIfInBounds_toArray, List.set_cons_zero, List.set_cons_succ]
    refine wpAnyZ_two (i := 2) (j := 8) (by kernel_rfl) rfl rfl (fun K hK => ?_) (fun K hK => ?_)
    · go_simp
      go_at_call 102
      refine (IH.out _).mono ?_
      rintro e w6 ⟨rfl, hb6⟩
      have hb7 : Below (wd.heap.size + 1) (wd.alloc (.cells #[.int .u8 (u.toNat : Int)] 5)) w6 := hb6.mono (by simp)
      have hcv : Sem.run Tryz.prog (convert 39 9 (.slice (some ⟨wd.heap.size, 0, none⟩) 1 1)) w6 = .ok (.string ub) w6 := HCK.out wd w6 hb7
      have HB6 : Hid (Below w.heap.size w w6) := (HBD.out.alloc HBD.out.size _).trans (hb7.mono (by omega))
      rw [hsd] at hcv
      clear hb6 hb7
      refine hK.out _ _ (fun _ => trivial) (fun hHeld => ?_)
      replace hHeld := hHeld (by decide)
      clear hK K
      try simp only [Act.put, List.setIfInBounds_toArray, List.set_cons_zero, List.set_cons_succ]
      refine wpAnyZ_oneL (i := 8) (by kernel_rfl) rfl (fun K hK => ?_)
      go_simp
      refine hK.out _ _ (fun _ => trivial) (fun hHeld => ?_)
      replace hHeld := hHeld (by decide)
      clear hK K
      try simp only [Act.put, List.setIfInBounds_toArray, List.set_cons_zero, List.set_cons_succ]
      refine wpAnyZ_oneL (i := 9) (by kernel_rfl) rfl (fun K hK => ?_)
      go_simp
      rw [if_neg (by omega)]
      refine hK.out _ _ (fun _ => trivial) (fun hHeld => ?_)
      replace hHeld := hHeld (by decide)
      clear hK K
      try simp only [Act.put, List.setIfInBounds_toArray, List.set_cons_zero, List.set_cons_succ]
      refine wpAnyZ_oneL (i := 10) (by kernel_rfl) rfl (fun K hK => ?_)
      go_simp
      refine hK.out _ _ (fun h => absurd h (by decide)) (fun _ => ?_)
      clear hK K
      try simp only [Act.put, List.setIfInBounds_toArray, List.set_cons_zero, List.set_cons_succ]
      refine wpAnyZ_done (by kernel_rfl) ?_ _
      clear hHeld
      go_wp2_with fail
      go_ret
      exact ⟨by rw [HCAT.out] <;> rfl, HB6.out⟩
    · have hcv : Sem.run Tryz.prog (convert 39 9 (.slice (some ⟨wd.heap.size, 0, none⟩) 1 1)) (wd.alloc (.cells #[.int .u8 (u.toNat : Int)] 5)) = .ok (.string ub) (wd.alloc (.cells #[.int .u8 (u.toNat : Int)] 5)) := HCN.out wd
      rw [hsd] at hcv
      go_simp
      refine hK.out _ _ (fun _ => trivial) (fun hHeld => ?_)
      replace hHeld := hHeld (by decide)
      clear hK K
      try simp only [Act.put, List.setIfInBounds_toArray, List.set_cons_zero, List.set_cons_succ]
      refine wpAnyZ_oneL (i := 2) (by kernel_rfl) rfl (fun K hK => ?_)
      go_simp
      go_at_call 102
      refine (IH.out _).mono ?_
      rintro e w6 ⟨rfl, hb6⟩
      have HB6 : Hid (Below w.heap.size w w6) := (HBD.out.alloc HBD.out.size _).trans (hb6.mono (by simp; omega))
      clear hb6 hcv
      refine hK.out _ _ (fun _ => trivial) (fun hHeld => ?_)
      replace hHeld := hHeld (by decide)
      clear hK K
      try simp only [Act.put, List.setIfInBounds_toArray, List.set_cons_zero, List.set_cons_succ]
      refine wpAnyZ_oneL (i := 9) (by kernel_rfl) rfl (fun K hK => ?_)
      go_simp
      rw [if_neg (by omega)]
      refine hK.out _ _ (fun _ => trivial) (fun hHeld => ?_)
      replace hHeld := hHeld (by decide)
      clear hK K
      try simp only [Act.put, List.setIfInBounds_toArray, List.set_cons_zero, List.set_cons_succ]
      refine wpAnyZ_oneL (i := 10) (by kernel_rfl) rfl (fun K hK => ?_)
      go_simp
      refine hK.out _ _ (fun h => absurd h (by decide)) (fun _ => ?_)
      clear hK K
      try simp only [Act.put, List.setIfInBounds_toArray, List.set_cons_zero, List.set_cons_succ]
      refine wpAnyZ_done (by kernel_rfl) ?_ _
      clear hHeld
      go_wp2_with fail
      go_ret
      exact ⟨by rw [HCAT.out] <;> rfl, HB6.out⟩
theorem dec_small (n : Int) (u : UInt8) (h0 : 0 ≤ n) (h1 : n < 10) (qu : 48 + n = (u.toNat : Int)) (w : World) :
    Calls Tryz.prog 102 #[.int .i64 n] w fun e w' => e = .returned (.string (bx [u])) ∧ Below w.heap.size w w' := by
  have hu : u.toNat < 256 := u.toNat_lt
  have qw2 : IntKind.i64.wrap (u.toNat : Int) = (u.toNat : Int) := IntWalk.i64_in _ (by omega)
  have qw3 : IntKind.u8.wrap (u.toNat : Int) = (u.toNat : Int) := IntWalk.u8_in _ (by omega)
  have t1 : ¬ n < 0 := by omega
  have hcv : Sem.run Tryz.prog (convert 39 9 (.slice (some ⟨w.heap.size, 0, none⟩) 1 1)) (w.alloc (.cells #[.int .u8 (u.toNat : Int)] 5)) = .ok (.string (bx [u])) (w.alloc (.cells #[.int .u8 (u.toNat : Int)] 5)) := conv_new w [u]
  have HB : Hid (Below w.heap.size w (w.alloc (.cells #[.int .u8 (u.toNat : Int)] 5))) := (Below.refl _ w).alloc (Nat.le_refl _) _
  go_enter Tryz.func102, Tryz.ntmps102
  go_wp2_with fail
  go_ret
  exact ⟨rfl, HB.out⟩
theorem dec_smallneg (n : Int) (u : UInt8) (h0 : n < 0) (h1 : -10 < n) (qu : 48 - n = (u.toNat : Int)) (w : World) :
    Calls Tryz.prog 102 #[.int .i64 n] w fun e w' => e = .returned (.string (bx [45, u])) ∧ Below w.heap.size w w' := by
  have hu : u.toNat < 256 := u.toNat_lt
  have qw2 : IntKind.i64.wrap (u.toNat : Int) = (u.toNat : Int) := IntWalk.i64_in _ (by omega)
  have qw3 : IntKind.u8.wrap (u.toNat : Int) = (u.toNat : Int) := IntWalk.u8_in _ (by omega)
  have hcv : Sem.run Tryz.prog (convert 39 9 (.slice (some ⟨w.heap.size, 0, none⟩) 1 1)) (w.alloc (.cells #[.int .u8 (u.toNat : Int)] 5)) = .ok (.string (bx [u])) (w.alloc (.cells #[.int .u8 (u.toNat : Int)] 5)) := conv_new w [u]
  have HB : Hid (Below w.heap.size w (w.alloc (.cells #[.int .u8 (u.toNat : Int)] 5))) := (Below.refl _ w).alloc (Nat.le_refl _) _
  have hsz : (bx [u]).size = 1 := rfl
  have HC : Hid (({ data := #[45] } : ByteArray) ++ bx [u] = bx [45, u]) := bx_app [45] [u]
  generalize bx [u] = ub at *
  generalize bx [45, u] = res at *
  go_enter Tryz.func102, Tryz.ntmps102
  go_wp2_with fail
  go_ret
  exact ⟨by rw [HC.out] <;> rfl, HB.out⟩
theorem dec_all : ∀ (m : Nat) (n : Int), n.natAbs ≤ m → -9223372036854775808 ≤ n → n ≤ 9223372036854775807 → DecCalls n
  | m, n, hm, h0, h1 => by
    by_cases hp : 0 ≤ n
    · obtain ⟨k, rfl⟩ : ∃ k : Nat, n = (k : Int) := ⟨n.toNat, by omega⟩
      by_cases hk : k < 10
      · intro W
        have := dec_small (k : Int) (UInt8.ofNat (48 + k)) hp (by omega) (by rw [dg_toNat k hk]; omega) W
        rw [Lib.itoa_nonneg, Lib.decDigits_one hk]
        exact this
      · match m, hm with
        | 0, hm => omega
        | m + 1, hm =>
          have e : (((k / 10 : Nat)) : Int) = (k : Int) / 10 := by omega
          have ih := dec_all m ((k / 10 : Nat) : Int) (by omega) (by omega) (by omega)
          intro W
          have := dec_pos (k : Int) ((k / 10 : Nat) : Int) ((k % 10 : Nat) : Int) (UInt8.ofNat (48 + k % 10)) (Lib.itoa ((k / 10 : Nat) : Int)) (by omega) h1 (by rw [Int.tdiv_eq_ediv_of_nonneg (by omega)]; omega) (by rw [Int.tmod_eq_emod_of_nonneg (by omega)]; omega) (by rw [dg_toNat _ (Nat.mod_lt _ (by decide))]; omega) (by omega) (Nat.le_trans (Lib.itoa_length_le _ (by omega) (by omega)) (by decide)) ih W
          rw [Lib.itoa_nonneg, dec_stp hk]
          rw [Lib.itoa_nonneg] at this
          exact this
    · obtain ⟨k, rfl⟩ : ∃ k : Nat, n = -(k : Int) := ⟨n.natAbs, by omega⟩
      by_cases hk : k < 10
      · intro W
        have := dec_smallneg (-(k : Int)) (UInt8.ofNat (48 + k)) (by omega) (by omega) (by rw [dg_toNat k hk]; omega) W
        rw [Lib.itoa_neg k (by omega), Lib.decDigits_one hk]
        exact this
      · match m, hm with
        | 0, hm => omega
        | m + 1, hm =>
          have ih := dec_all m (-((k / 10 : Nat) : Int)) (by omega) (by omega) (by omega)
          intro W
          have := dec_neg (-(k : Int)) (-((k / 10 : Nat) : Int)) (-((k % 10 : Nat) : Int)) (UInt8.ofNat (48 + k % 10)) (Lib.itoa (-((k / 10 : Nat) : Int))) (by omega) h0 (by rw [Int.neg_tdiv, Int.tdiv_eq_ediv_of_nonneg (by omega)]; omega) (by rw [Int.neg_tmod, Int.tmod_eq_emod_of_nonneg (by omega)]; omega) (by rw [dg_toNat _ (Nat.mod_lt _ (by decide))]; omega) (by omega) (Nat.le_trans (Lib.itoa_length_le _ (by omega) (by omega)) (by decide)) ih W
          rw [Lib.itoa_neg k (by omega), dec_stp hk]
          rw [Lib.itoa_neg (k / 10) (by omega)] at this
          exact this
theorem rdecimal_any (n : Int) (h0 : -9223372036854775808 ≤ n) (h1 : n ≤ 9223372036854775807) : DecCalls n := dec_all _ n (Nat.le_refl _) h0 h1
end Go.Proofs.YtomecnncighkgaaGreatDoor
