/- value.literal whole; the walks over value.Show and value.Text. -/
import Derived.Test.YtomecnncighkgaaGreatDoorVq13m
import Derived.Test.YtomecnncighkgaaGreatDoorVk3
namespace Go.Proofs.YtomecnncighkgaaGreatDoor
open Go.RowKit Go.Deep

theorem keyed_size {t : VT} (h : keyedF t = true) : ∀ x ∈ t.keys, x.size ≤ 64 := by
  unfold keyedF keysTo at h
  rw [Bool.and_eq_true, List.all_eq_true] at h
  intro x hx
  obtain ⟨i, hi, rfl⟩ := List.getElem_of_mem hx
  have := h.2 i (List.mem_range.2 hi)
  rw [Bool.and_eq_true, List.getD, List.getElem?_eq_getElem hi] at this
  have h1 := this.1
  unfold keyOk at h1
  rw [Bool.and_eq_true, decide_eq_true_eq, decide_eq_true_eq] at h1
  exact h1.2
theorem lit_all : ∀ (m : Nat) (lv : Nat) (t : VT), SizeOf.sizeOf t ≤ m → checkF lv t = 0 → (litF t).length ≤ 100000000000 → LitCalls t
  | 0, _, t, hm, _, _ => by
    cases t
    simp only [VT.mk.sizeOf_spec] at hm
    omega
  | m + 1, lv, .mk k b n s L ks, hm, hc, hl => by
    intro cs W hp h
    rw [vcell_mk] at h
    obtain ⟨v4, v5, rfl, hs, hL⟩ := h
    obtain ⟨ko, kc, rfl⟩ := hs.form
    obtain ⟨lo, lc, rfl⟩ := vlist_slice hL
    obtain ⟨hn, hcl⟩ := check_zero hc
    obtain ⟨_, _, _, _, hi0, hi1, hz, hll, _, hkd⟩ := node_zero hn
    have ih : (k = 4 ∨ k = 5) → (k = 5 → ks.length = L.length) → ∀ t ∈ L, LitCalls t := fun hk hkl t ht => by
      refine lit_all m (lv + 1) t (by have := vt_lt (k := k) (b := b) (n := n) (s := s) (ks := ks) ht; omega) (hcl t ht) ?_
      obtain ⟨i, hi, rfl⟩ := List.getElem_of_mem ht
      exact Nat.le_trans ((litF_sub (b := b) (n := n) (s := s) hk hkl).1 i hi) hl
    by_cases k4 : k = 4
    · subst k4
      exact lit_4 b n s L ks hl hll (ih (.inl rfl) (fun h => by cases h)) lo ko lc ks.length kc W hp hL
    by_cases k5 : k = 5
    · subst k5
      have hk := keyed_len (hkd rfl)
      exact lit_5 b n s L ks hl hll hk (fun x hx => Nat.le_trans (keyed_size (hkd rfl) x hx) (by decide)) (ih (.inr rfl) (fun _ => hk)) lo ko lc kc W hp hL hs
    change -9007199254740992 ≤ n at hi0
    change n ≤ 9007199254740992 at hi1
    change s.size ≤ 4096 at hz
    exact lit_o k k4 k5 b n (by omega) (by omega) s (by omega) L ks lo ko L.length lc ks.length kc W hp
theorem literal_any (t : VT) (hv : validF t = 0) (hl : (litF t).length ≤ 100000000000) (v : Value) (W : World) (hp : Pow W) (h : VAt W v t) : Calls Tryz.prog 75 #[v] W fun e w' => e = .returned (.string (bx (litF t))) ∧ Below W.heap.size W w' := by
  obtain ⟨cs, rfl, hc⟩ := h
  exact lit_all _ 1 t (Nat.le_refl _) hv hl cs W hp hc

set_option maxRecDepth 100000 in
set_option maxHeartbeats 1600000 in
theorem show_any (t : VT) (hwf : t.wf) (hl : validF t = 0 → (litF t).length ≤ 100000000000) (v : Value) (W : World) (hp : Pow W) (h : VAt W v t) : Calls Tryz.prog 47 #[v] W fun e w' => e = .returned (.string (bx (showT t))) ∧ Below W.heap.size W w' := by
  have H := Lib.hid h
  obtain ⟨v4, v5, rfl, hs, hL⟩ := h.open
  obtain ⟨ko, kc, rfl⟩ := hs.form
  obtain ⟨lo, lc, rfl⟩ := vlist_slice hL
  obtain ⟨W1, hW1⟩ : ∃ W1, W.alloc (.cells #[.int .i64 t.kind, .bool t.bool, .int .i64 t.int, .string t.str, .slice lo t.list.length lc, .slice ko t.keys.length kc] 46 (0, 0)) = W1 := ⟨_, rfl⟩
  have hk0 : W1.heap[W.heap.size]? = some (.cells #[.int .i64 t.kind, .bool t.bool, .int .i64 t.int, .string t.str, .slice lo t.list.length lc, .slice ko t.keys.length kc] 46 (0, 0)) := by rw [← hW1]; exact hp_new rfl
  have HB1 : Hid (Below W.heap.size W W1) := by unfold Hid; rw [← hW1]; exact (Below.refl _ W).alloc (Nat.le_refl _) _
  have VC := Lib.hid (valid_any _ t W1 (H.out.below HB1.out) hwf)
  have LC : Hid (∀ W', Below W1.heap.size W1 W' → validF t = 0 → Calls Tryz.prog 75 #[.agg #[.int .i64 t.kind, .bool t.bool, .int .i64 t.int, .string t.str, .slice lo t.list.length lc, .slice ko t.keys.length kc]] W' fun e w' => e = .returned (.string (bx (litF t))) ∧ Below W'.heap.size W' w') := fun W' hb hv =>
    literal_any t hv (hl hv) _ W' ((hp.below HB1.out).below hb) ((H.out.below HB1.out).below hb)
  have HS : Hid (showT t = if validF t = 0 then litF t else []) := rfl
  generalize showT t = r at *
  generalize litF t = x at *
  have HZ : Hid (W.heap.size < W1.heap.size) := (Array.getElem?_eq_some_iff.1 hk0).1
  have HKK : Hid (∀ W', Below W1.heap.size W1 W' → W'.heap[W.heap.size]? = some (.cells #[.int .i64 t.kind, .bool t.bool, .int .i64 t.int, .string t.str, .slice lo t.list.length lc, .slice ko t.keys.length kc] 46 (0, 0))) := fun W' hb => (hb.block _ HZ.out).trans hk0
  generalize t.kind = q0 at *
  generalize t.bool = q1 at *
  generalize t.int = q2 at *
  generalize t.str = q3 at *
  generalize t.list.length = q4 at *
  generalize t.keys.length = q5 at *
  have d0 : W1.cell? ⟨W.heap.size, 0, none⟩ = some (.int .i64 q0) := cell_of_blk hk0 0
  have d1 : W1.cell? ⟨W.heap.size, 1, none⟩ = some (.bool q1) := cell_of_blk hk0 1
  have d2 : W1.cell? ⟨W.heap.size, 2, none⟩ = some (.int .i64 q2) := cell_of_blk hk0 2
  have d3 : W1.cell? ⟨W.heap.size, 3, none⟩ = some (.string q3) := cell_of_blk hk0 3
  have d4 : W1.cell? ⟨W.heap.size, 4, none⟩ = some (.slice lo q4 lc) := cell_of_blk hk0 4
  have d5 : W1.cell? ⟨W.heap.size, 5, none⟩ = some (.slice ko q5 kc) := cell_of_blk hk0 5
  generalize validF t = e at *
  clear H hs hL hk0 h hl hp hwf
  go_enter Tryz.func47, Tryz.ntmps47
  go_wp2_with fail
  clear hW1
  refine VC.out.mono ?_
  rintro e' w4 ⟨rfl, hb4⟩
  clear d0 d1 d2 d3 d4 d5
  have hk := HKK.out w4 hb4
  have d0 : w4.cell? ⟨W.heap.size, 0, none⟩ = some (.int .i64 q0) := cell_of_blk hk 0
  have d1 : w4.cell? ⟨W.heap.size, 1, none⟩ = some (.bool q1) := cell_of_blk hk 1
  have d2 : w4.cell? ⟨W.heap.size, 2, none⟩ = some (.int .i64 q2) := cell_of_blk hk 2
  have d3 : w4.cell? ⟨W.heap.size, 3, none⟩ = some (.string q3) := cell_of_blk hk 3
  have d4 : w4.cell? ⟨W.heap.size, 4, none⟩ = some (.slice lo q4 lc) := cell_of_blk hk 4
  have d5 : w4.cell? ⟨W.heap.size, 5, none⟩ = some (.slice ko q5 kc) := cell_of_blk hk 5
  have HB4 : Hid (Below W.heap.size W w4) := HB1.out.trans (hb4.mono HB1.out.size)
  by_cases he : e = 0
  · have CL := Lib.hid (LC.out w4 hb4 he)
    have HX : Hid (r = x) := by have := HS.out; rw [if_pos he] at this; exact this
    subst he
    clear LC HS HKK VC hk hb4
    as_aux_lemma =>
    go_wp2_with fail
    refine CL.out.mono ?_
    rintro e' w5 ⟨rfl, hb5⟩
    have HB5 : Hid (Below W.heap.size W w5) := HB4.out.trans (hb5.mono HB4.out.size)
    clear hb5 CL
    go_wp2_with fail
    go_ret
    exact ⟨by rw [HX.out] <;> rfl, HB5.out⟩
  · have HX : Hid (r = []) := by have := HS.out; rw [if_neg he] at this; exact this
    have hne : ((e : Int) == 0) = false := by rw [beq_eq_false_iff_ne]; omega
    have hne2 : ((e : Int) != 0) = true := by simp [bne, hne]
    clear LC HS HKK VC hk hb4 he
    as_aux_lemma =>
    go_wp2_with fail
    go_ret
    exact ⟨by rw [HX.out] <;> rfl, HB4.out⟩
end Go.Proofs.YtomecnncighkgaaGreatDoor
