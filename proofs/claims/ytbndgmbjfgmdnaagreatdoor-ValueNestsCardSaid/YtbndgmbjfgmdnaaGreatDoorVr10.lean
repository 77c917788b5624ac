/- The walk over the reference's with. -/
import Derived.Test.YtbndgmbjfgmdnaaGreatDoorVr9m
import Derived.Test.YtbndgmbjfgmdnaaGreatDoorVq11m
import Derived.Test.YtbndgmbjfgmdnaaGreatDoorVb3
import Derived.Test.YtbndgmbjfgmdnaaGreatDoorVa3
namespace Go.Proofs.YtbndgmbjfgmdnaaGreatDoor
open Go.RowKit Go.Deep

def WiRel (C : Nat → Prop) (W w4 : World) (x : VR) (l : List VR) (f : Nat) (t6 t7 : Value) (wr : World) : Prop :=
  ∃ (i : Nat) (d : Bool) (A : List VR) (kv lv : Value), t6 = .bool d ∧ foldW x l i = (d, A) ∧ t7 = .int .i64 (i : Nat) ∧ i ≤ l.length ∧ f = l.length - i ∧ TwSt (W.heap.size + 3) C (A.map (·.1)) (A.map (·.2)) kv lv wr ∧ Below (W.heap.size + 3) w4 wr

theorem foldW_bnd (x : VR) (l : List VR) (i : Nat) (h : i ≤ l.length) : (foldW x l i).2.length ≤ i + 1 := by
  rw [foldW_len x l i h]
  split <;> omega
set_option maxRecDepth 100000 in
set_option maxHeartbeats 6400000 in
theorem with_any (l : List VR) (x : VR) (hl : l.length ≤ 1024) (hxs : x.1.size ≤ 9223372036854775807) (hsz : ∀ y ∈ l, y.1.size ≤ 9223372036854775807) (v : Value) (u : List Value) (W : World) (B : Nat → Prop) (h : VAtB B W v (mapT l)) (hx : VCellB B W x.2 u) :
    Calls Tryz.prog 51 #[v, .agg (.string x.1 :: u).toArray] W fun e w' => ∃ r, e = .returned r ∧ VAtB (fun b => B b ∨ W.heap.size ≤ b) w' r (mapT (insN nmR x l)) ∧ Below W.heap.size W w' := by
  obtain ⟨lo, lc, ko, kc, rfl, hs0, hL⟩ := h.open
  have hs : StrsAt W (.slice ko (l.map (·.1)).length kc) (l.map (·.1)) := strs_row hs0
  change EVal.Row B W (l.map (·.2)) (.slice lo (l.map (·.2)).length lc) at hL
  rw [List.length_map] at hs hL
  obtain ⟨xk, xb, xn, xs, xlo, xln, xlc, xko, xkn, xkc, rfl⟩ := vcell_slices0 (VCellB.cell _ _ hx)
  obtain ⟨C, hC⟩ : ∃ C : Nat → Prop, C = fun b => B b ∧ b < W.heap.size := ⟨_, rfl⟩
  have HCW : Hid (∀ t cs, VCellB B W t cs → VCellB C W t cs) := fun t cs h => by rw [hC]; exact VCellB.lt t cs h
  have HCL : Hid (∀ b, C b → b < W.heap.size) := fun b hb => by rw [hC] at hb; exact hb.2
  have HCB : Hid (∀ b, C b → B b) := fun b hb => by rw [hC] at hb; exact hb.1
  have hl1 : (mapT l).list.length = l.length := List.length_map _
  have hl2 : (mapT l).keys.length = l.length := List.length_map _
  rw [hl1, hl2]
  clear hl1 hl2 hs0 hC
  change Calls Tryz.prog 51 #[.agg #[.int .i64 5, .bool false, .int .i64 0, .string ⟨#[]⟩, .slice lo l.length lc, .slice ko l.length kc], .agg #[.string x.1, .int .i64 xk, .bool xb, .int .i64 xn, .string xs, .slice xlo xln xlc, .slice xko xkn xkc]] W _
  have HS := Lib.hid hs
  have HL := Lib.hid hL
  have HX := Lib.hid hx
  have HSZ := Lib.hid hsz
  clear hs hL hx h hsz
  obtain ⟨W1, hW1⟩ : ∃ W1, W.alloc (.cells #[.int .i64 5, .bool false, .int .i64 0, .string ⟨#[]⟩, .slice lo l.length lc, .slice ko l.length kc] 25 (0, 0)) = W1 := ⟨_, rfl⟩
  obtain ⟨W2, hW2⟩ : ∃ W2, W1.alloc (.cells #[.string x.1, .int .i64 xk, .bool xb, .int .i64 xn, .string xs, .slice xlo xln xlc, .slice xko xkn xkc] 55 (0, 0)) = W2 := ⟨_, rfl⟩
  obtain ⟨W3, hW3⟩ : ∃ W3, W2.alloc (.cells #[.int .i64 0, .bool false, .int .i64 0, .string ⟨#[]⟩, .slice none 0 0, .slice none 0 0] 25 (0, 0)) = W3 := ⟨_, rfl⟩
  obtain ⟨W4, hW4⟩ : ∃ W4, W3.alloc (.cells #[.int .i64 5, .bool false, .int .i64 0, .string ⟨#[]⟩, .slice none 0 0, .slice none 0 0] 25 (0, 0)) = W4 := ⟨_, rfl⟩
  have hs1 : W1.heap.size = W.heap.size + 1 := by rw [← hW1]; simp
  have hs2 : W2.heap.size = W.heap.size + 2 := by rw [← hW2]; simp [hs1]
  have hs3 : W3.heap.size = W.heap.size + 3 := by rw [← hW3]; simp [hs2]
  have hs4 : W4.heap.size = W.heap.size + 4 := by rw [← hW4]; simp [hs3]
  have hb01 : Below W.heap.size W W1 := by rw [← hW1]; exact (Below.refl _ W).alloc (Nat.le_refl _) _
  have hb12 : Below W1.heap.size W1 W2 := by rw [← hW2]; exact (Below.refl _ W1).alloc (Nat.le_refl _) _
  have hb23 : Below W2.heap.size W2 W3 := by rw [← hW3]; exact (Below.refl _ W2).alloc (Nat.le_refl _) _
  have hb34 : Below W3.heap.size W3 W4 := by rw [← hW4]; exact (Below.refl _ W3).alloc (Nat.le_refl _) _
  have HK0 : Hid (W4.heap[W.heap.size]? = some (.cells #[.int .i64 5, .bool false, .int .i64 0, .string ⟨#[]⟩, .slice lo l.length lc, .slice ko l.length kc] 25 (0, 0))) := (hb34.block _ (by omega)).trans ((hb23.block _ (by omega)).trans ((hb12.block _ (by omega)).trans (by rw [← hW1]; exact hp_new rfl)))
  have HK1 : Hid (W4.heap[W.heap.size + 1]? = some (.cells #[.string x.1, .int .i64 xk, .bool xb, .int .i64 xn, .string xs, .slice xlo xln xlc, .slice xko xkn xkc] 55 (0, 0))) := (hb34.block _ (by omega)).trans ((hb23.block _ (by omega)).trans (by rw [← hW2]; exact hp_new (by omega)))
  have HK2 : Hid (W4.heap[W.heap.size + 2]? = some (.cells #[.int .i64 0, .bool false, .int .i64 0, .string ⟨#[]⟩, .slice none 0 0, .slice none 0 0] 25 (0, 0))) := (hb34.block _ (by omega)).trans (by rw [← hW3]; exact hp_new (by omega))
  have hk3 : W4.heap[W.heap.size + 3]? = some (.cells #[.int .i64 5, .bool false, .int .i64 0, .string ⟨#[]⟩, .slice none 0 0, .slice none 0 0] 25 (0, 0)) := by rw [← hW4]; exact hp_new (by omega)
  have HB4 : Hid (Below W.heap.size W W4) := ((hb01.trans (hb12.mono (by omega))).trans (hb23.mono (by omega))).trans (hb34.mono (by omega))
  have HREL0 : Hid (WiRel C W W4 x l l.length (.bool false) (.int .i64 ((0 : Nat) : Int)) W4) := ⟨0, false, [], _, _, rfl, rfl, rfl, Nat.zero_le _, rfl, ⟨hk3, .nil, .nil, fun b hb => by simp [Value.ownBlock] at hb, fun b hb => by have := HCL.out b hb; omega⟩, Below.refl _ _⟩
  obtain ⟨iV, hiV, hzV, hnV, hyV⟩ := Tryz.vinfoV'
  have HI := Lib.hid hiV
  obtain ⟨i9, hi9, hz9, hn9, hy9⟩ := Tryz.vinfo9'
  have HI9 := Lib.hid hi9
  have HW4 := Lib.hid hW4
  clear hiV hi9 hb01 hb12 hb23 hb34 hk3 hW4
  go_enter Tryz.func51, Tryz.ntmps51
  go_wp2_with fail
  rw [HW4.out]
  clear hW1 hW2 hW3 HW4 hs1 hs2 hs3
  go_loopg [6, 7] l.length (WiRel C W W4 x l)
  case atStart => exact HREL0.out
  case round =>
    obtain ⟨i, d, A, kv, lv, rfl, hfo, rfl, hi, rfl, hst, hbel⟩ := hrel
    have HST := Lib.hid hst
    have HB := Lib.hid hbel
    have HFO := Lib.hid hfo
    have HBW : Hid (Below W.heap.size W wr) := HB4.out.trans (hbel.mono (by omega))
    have HF : Hid (∀ W' : World, Below (W.heap.size + 3) W4 W' → W'.cell? ⟨W.heap.size, 4, none⟩ = some (.slice lo l.length lc) ∧ W'.cell? ⟨W.heap.size, 5, none⟩ = some (.slice ko l.length kc) ∧ W'.cell? ⟨W.heap.size + 1, 0, none⟩ = some (.string x.1) ∧ W'.cell? ⟨W.heap.size + 1, 1, none⟩ = some (.int .i64 xk) ∧ W'.cell? ⟨W.heap.size + 1, 2, none⟩ = some (.bool xb) ∧ W'.cell? ⟨W.heap.size + 1, 3, none⟩ = some (.int .i64 xn) ∧ W'.cell? ⟨W.heap.size + 1, 4, none⟩ = some (.string xs) ∧ W'.cell? ⟨W.heap.size + 1, 5, none⟩ = some (.slice xlo xln xlc) ∧ W'.cell? ⟨W.heap.size + 1, 6, none⟩ = some (.slice xko xkn xkc)) := fun W' hb => by
      have k0 := (hb.block W.heap.size (by omega)).trans HK0.out
      have k1 := (hb.block (W.heap.size + 1) (by omega)).trans HK1.out
      exact ⟨cell_of_blk k0 4, cell_of_blk k0 5, cell_of_blk k1 0, cell_of_blk k1 1, cell_of_blk k1 2, cell_of_blk k1 3, cell_of_blk k1 4, cell_of_blk k1 5, cell_of_blk k1 6⟩
    obtain ⟨g4, g5, x0, x1, x2, x3, x4, x5, x6⟩ := HF.out wr hbel
    clear hst hbel hfo HREL0
    by_cases hlt : i < l.length
    · have hii : (i : Int) < (l.length : Int) := by omega
      obtain ⟨b1, o1, rfl, hb1, hc1⟩ := HS.out.at_ (show i < (l.map (·.1)).length by rw [List.length_map]; exact hlt)
      rw [getD_at (show i < (l.map (·.1)).length by rw [List.length_map]; exact hlt), List.getElem_map] at hc1
      obtain ⟨bl, off, ce, hse, _, hbl, hce0, hvcB⟩ := HL.out.at (show i < (l.map (·.2)).length by rw [List.length_map]; exact hlt)
      subst hse
      have hce : ∀ (j : Nat) u, ce[j]? = some u → W.cell? ⟨bl, off + i * 6 + j, none⟩ = some u := hce0
      rw [List.getElem_map] at hvcB
      have hvc := VCellB.cell _ _ hvcB
      obtain ⟨k1, c1, n1, s1, lo1, ln1, lc1, ko1, kn1, kc1, rfl⟩ := vcell_slices0 hvc
      have HE : Hid (∀ W' : World, Below W.heap.size W W' → W'.cell? ⟨b1, o1 + i, none⟩ = some (.string l[i].1) ∧ W'.cell? ⟨bl, off + i * 6, none⟩ = some (.int .i64 k1) ∧ W'.cell? ⟨bl, off + i * 6 + 1, none⟩ = some (.bool c1) ∧ W'.cell? ⟨bl, off + i * 6 + 2, none⟩ = some (.int .i64 n1) ∧ W'.cell? ⟨bl, off + i * 6 + 3, none⟩ = some (.string s1) ∧ W'.cell? ⟨bl, off + i * 6 + 4, none⟩ = some (.slice lo1 ln1 lc1) ∧ W'.cell? ⟨bl, off + i * 6 + 5, none⟩ = some (.slice ko1 kn1 kc1)) := fun W' hb => by
        have e : ∀ (j : Nat) u, [Value.int .i64 k1, .bool c1, .int .i64 n1, .string s1, .slice lo1 ln1 lc1, .slice ko1 kn1 kc1][j]? = some u → W'.cell? ⟨bl, off + i * 6 + j, none⟩ = some u := fun j u hu => (hb.cell (p := ⟨bl, off + i * 6 + j, none⟩) hbl).trans (hce j u hu)
        exact ⟨(hb.cell (p := ⟨b1, o1 + i, none⟩) hb1).trans hc1, e 0 _ rfl, e 1 _ rfl, e 2 _ rfl, e 3 _ rfl, e 4 _ rfl, e 5 _ rfl⟩
      have hva : VAtB C W _ _ := ⟨_, rfl, HCW.out _ _ hvcB⟩
      have HVY : Hid (∀ W' : World, Below W.heap.size W W' → VCellB C W' l[i].2 [.int .i64 k1, .bool c1, .int .i64 n1, .string s1, .slice lo1 ln1 lc1, .slice ko1 kn1 kc1]) := fun w' hb => by
        obtain ⟨cs, h1, h2⟩ := VAtB.below hva hb
        have h3 : cs = _ := (List.toArray_inj (Value.agg.inj h1)).symm
        subst h3
        exact h2
      clear hva hvcB hce0
      have HSC := Lib.hid (foldW_succ x l i hlt)
      have CM := fun W' => Lib.hid (rcompare_any x.1 l[i].1 hxs (HSZ.out _ (List.getElem_mem hlt)) W')
      obtain ⟨e0, e1, e2, e3, e4, e5, e6⟩ := HE.out wr HBW.out
      clear hvc hce hc1
      cases d with
      | true =>
        go_upto_region 6 with fail
        have HBZ0 := Lib.hid (fun n => (show Below (W.heap.size + 3) W4 (wr.drewN n) from HB.out.trans ((below_dn wr n).mono (by have := HB.out.size; omega))))
        have HSZ0 := Lib.hid (fun n => HST.out.below (below_dn wr n))
        have HFN : Hid (foldW x l (i + 1) = (true, A ++ [l[i]])) := by unfold Hid; rw [HSC.out, HFO.out]; rfl
        clear CM HSC HFO
        generalize l[i] = y at *
        go_quiet (fail)
        rename_i nq
        have HBZ := Lib.hid (HBZ0.out nq)
        have HSTZ := Lib.hid (HSZ0.out nq)
        clear HBZ0 HSZ0 g4 g5 x0 x1 x2 x3 x4 x5 x6 e0 e1 e2 e3 e4 e5 e6 HST HB HBW
        generalize wr.drewN nq = wz at *
        obtain ⟨kn, kcap, hkv⟩ := HSTZ.out.ks.form
        obtain ⟨ln0, lcap, hlv⟩ := HSTZ.out.vs.form
        rw [List.length_map] at hkv hlv
        subst hkv hlv
        have HZL : Hid (A.length ≤ 1025) := by have h1 := foldW_bnd x l (i + 1) (by omega); rw [HFN.out] at h1; dsimp only at h1; rw [List.length_append, List.length_singleton] at h1; unfold Hid; omega
        have HS10 : Hid (∀ W' : World, Below (W.heap.size + 3) W4 W' → W'.heap[W.heap.size + 3]? = wz.heap[W.heap.size + 3]? → W'.cell? ⟨W.heap.size + 3, 5, none⟩ = some (.slice kn A.length kcap) ∧ W'.cell? ⟨W.heap.size, 5, none⟩ = some (.slice (some ⟨b1, o1, none⟩) l.length kc) ∧ W'.cell? ⟨b1, o1 + i, none⟩ = some (.string y.1)) := fun W' hb h3 => ⟨cell_of_blk (h3.trans HSTZ.out.blk) 5, (HF.out W' hb).2.1, (HE.out W' (HB4.out.trans (hb.mono (by omega)))).1⟩
        have HBD : Hid (Below (W.heap.size + 3) W4 wz.drew) := HBZ.out.drew
        have HZD : Hid (W.heap.size + 3 < wz.heap.size) := (Array.getElem?_eq_some_iff.1 HSTZ.out.blk).1
        as_aux_lemma =>
        go_upto_region 10 with fail
        refine wp_region_Z (S := fun W' : World => W'.cell? ⟨W.heap.size + 3, 5, none⟩ = some (.slice kn A.length kcap) ∧ W'.cell? ⟨W.heap.size, 5, none⟩ = some (.slice (some ⟨b1, o1, none⟩) l.length kc) ∧ W'.cell? ⟨b1, o1 + i, none⟩ = some (.string y.1)) 9 (by kernel_rfl) (HS10.out _ HBD.out rfl) (fun hHeld => ?_)
        refine wpAnyZ_takeL (i := 0) (v := ?_) rfl (by kernel_rfl) (by kernel_rfl) (by kernel_rfl) (by kernel_rfl) (fun _ _ _ h => h) (Or.inl ⟨by rfl, ?_⟩) (by assumption) ?_
        rotate_left
        · (intro w hSw; (try dsimp only at hSw); go_simp; try with_reducible rfl)
        try simp only [Act.put, List.setIfInBounds_toArray, List.set_cons_zero, List.set_cons_succ]
        refine wpAnyZ_takeL (i := 1) (v := ?_) rfl (by kernel_rfl) (by kernel_rfl) (by kernel_rfl) (by kernel_rfl) (fun _ _ _ h => h) (Or.inl ⟨by rfl, ?_⟩) (by assumption) ?_
        rotate_left
        · (intro w hSw; (try dsimp only at hSw); go_simp; try with_reducible rfl)
        try simp only [Act.put, List.setIfInBounds_toArray, List.set_cons_zero, List.set_cons_succ]
        refine wpAnyZ_takeL (i := 2) (v := ?_) rfl (by kernel_rfl) (by kernel_rfl) (by kernel_rfl) (by kernel_rfl) (fun _ _ _ h => h) (Or.inl ⟨by rfl, ?_⟩) (by assumption) ?_
        rotate_left
        · (intro w hSw; (try dsimp only at hSw); go_simp; try with_reducible rfl)
        try simp only [Act.put, List.setIfInBounds_toArray, List.set_cons_zero, List.set_cons_succ]
        refine wpAnyZ_takeL (i := 3) (v := ?_) rfl (by kernel_rfl) (by kernel_rfl) (by kernel_rfl) (by kernel_rfl) (fun _ _ _ h => h) (Or.inl ⟨by rfl, ?_⟩) (by assumption) ?_
        rotate_left
        · (intro w hSw; (try dsimp only at hSw); go_simp; try with_reducible rfl)
        try simp only [Act.put, List.setIfInBounds_toArray, List.set_cons_zero, List.set_cons_succ]
        refine wpAnyZ_takeL (i := 4) (v := ?_) rfl (by kernel_rfl) (by kernel_rfl) (by kernel_rfl) (by kernel_rfl) (fun _ _ _ h => h) (Or.inl ⟨by rfl, ?_⟩) (by assumption) ?_
        rotate_left
        · (intro w hSw; (try dsimp only at hSw); go_simp; try with_reducible rfl)
        try simp only [Act.put, List.setIfInBounds_toArray, List.set_cons_zero, List.set_cons_succ]
        refine wpAnyZ_takeL (i := 5) (v := ?_) rfl (by kernel_rfl) (by kernel_rfl) (by kernel_rfl) (by kernel_rfl) (fun _ _ _ h => h) (Or.inl ⟨by rfl, ?_⟩) (by assumption) ?_
        rotate_left
        · (intro w hSw; (try dsimp only at hSw); go_simp; try with_reducible rfl)
        try simp only [Act.put, List.setIfInBounds_toArray, List.set_cons_zero, List.set_cons_succ]
        refine wpAnyZ_takeL (i := 6) (v := ?_) rfl (by kernel_rfl) (by kernel_rfl) (by kernel_rfl) (by kernel_rfl) (fun _ _ _ h => h) (Or.inl ⟨by rfl, ?_⟩) (by assumption) ?_
        rotate_left
        · (intro w hSw; (try dsimp only at hSw); go_simp; try with_reducible rfl)
        try simp only [Act.put, List.setIfInBounds_toArray, List.set_cons_zero, List.set_cons_succ]
        obtain ⟨wd, hwd⟩ : ∃ wd, wz.drew = wd := ⟨_, rfl⟩
        have HSD : Hid (TwSt (W.heap.size + 3) C (A.map (·.1)) (A.map (·.2)) (.slice kn A.length kcap) (.slice ln0 A.length lcap) wd) := by unfold Hid; rw [← hwd]; exact HSTZ.out.below ((Below.refl _ _).drew)
        have HHD : Hid (wd.heap[W.heap.size + 3]? = wz.heap[W.heap.size + 3]?) := by unfold Hid; rw [← hwd]; rfl
        have hzd : W.heap.size + 3 < wd.heap.size := by rw [← hwd]; exact HZD.out
        rw [hwd] at HBD ⊢
        refine wpAnyZ_oneL (i := 7) (by kernel_rfl) rfl (fun K hK => ?_)
        rw [if_pos (by rfl)]
        refine wp_build1 23 9 (.tmp 49) rfl #[.string y.1] i9 _ Tryz.underlying23 HI9.out hz9 1 hn9 (by decide) (by decide) rfl rfl ?_
        obtain ⟨W7, hW7⟩ : ∃ W7, wd.alloc (.cells #[.string y.1] 9) = W7 := ⟨_, rfl⟩
        have hk7 : W7.heap[wd.heap.size]? = some (.cells #[.string y.1] 9 (0, 0)) := by rw [← hW7]; exact hp_new rfl
        have HBD7 : Hid (Below wd.heap.size wd W7) := by unfold Hid; rw [← hW7]; exact (Below.refl _ _).alloc (Nat.le_refl _) _
        have HB7 : Hid (Below (W.heap.size + 3) W4 W7) := HBD.out.trans (HBD7.out.mono (by omega))
        have HST7 := Lib.hid (HSD.out.below HBD7.out)
        rw [hW7]
        clear hW7
        refine hK.out _ _ (fun _ => HS10.out _ HB7.out ((HBD7.out.block _ hzd).trans HHD.out)) (fun hHeld => ?_)
        replace hHeld := hHeld (by decide)
        clear hK K
        try simp only [Act.put, List.setIfInBounds_toArray, List.set_cons_zero, List.set_cons_succ]
        have hz7 : W.heap.size + 3 < W7.heap.size := Nat.lt_of_lt_of_le hzd HBD7.out.size
        refine wpAnyZ_oneL (i := 8) (by kernel_rfl) rfl (fun K hK => ?_)
        rw [if_pos (by rfl)]
        refine wp_own_push (E := EStr) (.tmp 44) (.tmp 50) 23 rfl (W.heap.size + 3 + 1) 9 i9 _ 16 Tryz.underlying23 HI9.out hz9 hn9 hy9 rfl _ (.slice kn A.length kcap) rfl HST7.out.ks y.1 [.string y.1] rfl wd.heap.size (0, 0) hk7 rfl (by rw [List.length_map]; have := HZL.out; unfold maxLen; omega) (by rw [List.length_map]; have := HZL.out; omega) (by omega) ?_
        intro v8 w8 hown hgrow hpu
        obtain ⟨g8, p8, hv8⟩ := hpu.form
        rw [List.length_map] at hv8
        subst hv8
        have hD8 : w8.heap[W.heap.size + 3]? = W7.heap[W.heap.size + 3]? := hgrow.block _ hz7 (fun e => by have := (HST7.out.ks.low _ e.symm).1; omega)
        have hK8 := hD8.trans HST7.out.blk
        have HB8 : Hid (Below (W.heap.size + 3) W4 w8) := HB7.out.trans (below_grown hgrow (by omega) (fun q e => by have := (HST7.out.ks.low q e).1; omega))
        have c85 : w8.cell? ⟨W.heap.size + 3, 5, none⟩ = some (.slice kn A.length kcap) := cell_of_blk hK8 5
        have f85 : w8.frozen? ⟨W.heap.size + 3, 5, none⟩ = false := free_of_blk hK8 5
        have hwr := wrote_setCell hK8 5 (.slice (some ⟨g8, 0, none⟩) (A.length + 1) p8)
        have HST9 := Lib.hid (HST7.out.key hown hgrow hpu hwr)
        have HB9 := Lib.hid (HB8.out.trans (hwr.below (Nat.le_refl _)))
        have HS8 := Lib.hid (HS10.out _ HB8.out (hD8.trans ((HBD7.out.block _ hzd).trans HHD.out)))
        clear hown hgrow hpu hD8 hK8 hwr hk7
        refine hK.out _ _ (fun _ => HS8.out) (fun hHeld => ?_)
        replace hHeld := hHeld (by decide)
        clear hK K
        try simp only [Act.put, List.setIfInBounds_toArray, List.set_cons_zero, List.set_cons_succ]
        refine wpAnyZ_oneL (i := 9) (by kernel_rfl) rfl (fun K hK => ?_)
        go_simp
        refine hK.out _ _ (fun h => absurd h (by decide)) (fun _ => ?_)
        clear hK K
        try simp only [Act.put, List.setIfInBounds_toArray, List.set_cons_zero, List.set_cons_succ]
        refine wpAnyZ_oneL (i := 10) (by kernel_rfl) rfl (fun K hK => ?_)
        go_simp
        refine hK.out _ _ (fun h => absurd h (by decide)) (fun _ => ?_)
        clear hK K
        try simp only [Act.put, List.setIfInBounds_toArray, List.set_cons_zero, List.set_cons_succ]
        refine wpAnyZ_done (by kernel_rfl) ?_ _
        clear c85 f85 hHeld HS8 HS10
        generalize w8.setCell ⟨W.heap.size + 3, 5, none⟩ (.slice (some ⟨g8, 0, none⟩) (A.length + 1) p8) = w9 at *
        clear HBD HBD7 HB7 HST7 HSD HHD hzd hz7 HB8 HSTZ HBZ HZD
        have HS11 : Hid (∀ W' : World, Below (W.heap.size + 3) W4 W' → W'.heap[W.heap.size + 3]? = w9.heap[W.heap.size + 3]? → W'.cell? ⟨W.heap.size + 3, 4, none⟩ = some (.slice ln0 A.length lcap) ∧ W'.cell? ⟨W.heap.size, 4, none⟩ = some (.slice (some ⟨bl, off, none⟩) l.length lc) ∧ W'.cell? ⟨bl, off + i * 6, none⟩ = some (.int .i64 k1) ∧ W'.cell? ⟨bl, off + i * 6 + 1, none⟩ = some (.bool c1) ∧ W'.cell? ⟨bl, off + i * 6 + 2, none⟩ = some (.int .i64 n1) ∧ W'.cell? ⟨bl, off + i * 6 + 3, none⟩ = some (.string s1) ∧ W'.cell? ⟨bl, off + i * 6 + 4, none⟩ = some (.slice lo1 ln1 lc1) ∧ W'.cell? ⟨bl, off + i * 6 + 5, none⟩ = some (.slice ko1 kn1 kc1)) := fun W' hb h3 => ⟨cell_of_blk (h3.trans HST9.out.blk) 4, (HF.out W' hb).1, (HE.out W' (HB4.out.trans (hb.mono (by omega)))).2⟩
        have HBE : Hid (Below (W.heap.size + 3) W4 w9.drew) := HB9.out.drew
        have HZE : Hid (W.heap.size + 3 < w9.heap.size) := (Array.getElem?_eq_some_iff.1 HST9.out.blk).1
        as_aux_lemma =>
        go_upto_region 11 with fail
        refine wp_region_Z (S := fun W' : World => W'.cell? ⟨W.heap.size + 3, 4, none⟩ = some (.slice ln0 A.length lcap) ∧ W'.cell? ⟨W.heap.size, 4, none⟩ = some (.slice (some ⟨bl, off, none⟩) l.length lc) ∧ W'.cell? ⟨bl, off + i * 6, none⟩ = some (.int .i64 k1) ∧ W'.cell? ⟨bl, off + i * 6 + 1, none⟩ = some (.bool c1) ∧ W'.cell? ⟨bl, off + i * 6 + 2, none⟩ = some (.int .i64 n1) ∧ W'.cell? ⟨bl, off + i * 6 + 3, none⟩ = some (.string s1) ∧ W'.cell? ⟨bl, off + i * 6 + 4, none⟩ = some (.slice lo1 ln1 lc1) ∧ W'.cell? ⟨bl, off + i * 6 + 5, none⟩ = some (.slice ko1 kn1 kc1)) 9 (by kernel_rfl) (HS11.out _ HBE.out rfl) (fun hHeld => ?_)
        refine wpAnyZ_takeL (i := 0) (v := ?_) rfl (by kernel_rfl) (by kernel_rfl) (by kernel_rfl) (by kernel_rfl) (fun _ _ _ h => h) (Or.inl ⟨by rfl, ?_⟩) (by assumption) ?_
        rotate_left
        · (intro w hSw; (try dsimp only at hSw); go_simp; try with_reducible rfl)
        try simp only [Act.put, List.setIfInBounds_toArray, List.set_cons_zero, List.set_cons_succ]
        refine wpAnyZ_takeL (i := 1) (v := ?_) rfl (by kernel_rfl) (by kernel_rfl) (by kernel_rfl) (by kernel_rfl) (fun _ _ _ h => h) (Or.inl ⟨by rfl, ?_⟩) (by assumption) ?_
        rotate_left
        · (intro w hSw; (try dsimp only at hSw); go_simp; try with_reducible rfl)
        try simp only [Act.put, List.setIfInBounds_toArray, List.set_cons_zero, List.set_cons_succ]
        refine wpAnyZ_takeL (i := 2) (v := ?_) rfl (by kernel_rfl) (by kernel_rfl) (by kernel_rfl) (by kernel_rfl) (fun _ _ _ h => h) (Or.inl ⟨by rfl, ?_⟩) (by assumption) ?_
        rotate_left
        · (intro w hSw; (try dsimp only at hSw); go_simp; try with_reducible rfl)
        try simp only [Act.put, List.setIfInBounds_toArray, List.set_cons_zero, List.set_cons_succ]
        refine wpAnyZ_takeL (i := 3) (v := ?_) rfl (by kernel_rfl) (by kernel_rfl) (by kernel_rfl) (by kernel_rfl) (fun _ _ _ h => h) (Or.inl ⟨by rfl, ?_⟩) (by assumption) ?_
        rotate_left
        · (intro w hSw; (try dsimp only at hSw); go_simp; try with_reducible rfl)
        try simp only [Act.put, List.setIfInBounds_toArray, List.set_cons_zero, List.set_cons_succ]
        refine wpAnyZ_takeL (i := 4) (v := ?_) rfl (by kernel_rfl) (by kernel_rfl) (by kernel_rfl) (by kernel_rfl) (fun _ _ _ h => h) (Or.inl ⟨by rfl, ?_⟩) (by assumption) ?_
        rotate_left
        · (intro w hSw; (try dsimp only at hSw); go_simp; try with_reducible rfl)
        try simp only [Act.put, List.setIfInBounds_toArray, List.set_cons_zero, List.set_cons_succ]
        refine wpAnyZ_takeL (i := 5) (v := ?_) rfl (by kernel_rfl) (by kernel_rfl) (by kernel_rfl) (by kernel_rfl) (fun _ _ _ h => h) (Or.inl ⟨by rfl, ?_⟩) (by assumption) ?_
        rotate_left
        · (intro w hSw; (try dsimp only at hSw); go_simp; try with_reducible rfl)
        try simp only [Act.put, List.setIfInBounds_toArray, List.set_cons_zero, List.set_cons_succ]
        refine wpAnyZ_takeL (i := 6) (v := ?_) rfl (by kernel_rfl) (by kernel_rfl) (by kernel_rfl) (by kernel_rfl) (fun _ _ _ h => h) (Or.inl ⟨by rfl, ?_⟩) (by assumption) ?_
        rotate_left
        · (intro w hSw; (try dsimp only at hSw); go_simp; try with_reducible rfl)
        try simp only [Act.put, List.setIfInBounds_toArray, List.set_cons_zero, List.set_cons_succ]
        obtain ⟨we, hwe⟩ : ∃ we, w9.drew = we := ⟨_, rfl⟩
        have HSE : Hid (TwSt (W.heap.size + 3) C (A.map (·.1) ++ [y.1]) (A.map (·.2)) (.slice (some ⟨g8, 0, none⟩) (A.length + 1) p8) (.slice ln0 A.length lcap) we) := by unfold Hid; rw [← hwe]; exact HST9.out.below ((Below.refl _ _).drew)
        have HHE : Hid (we.heap[W.heap.size + 3]? = w9.heap[W.heap.size + 3]?) := by unfold Hid; rw [← hwe]; rfl
        have hze : W.heap.size + 3 < we.heap.size := by rw [← hwe]; exact HZE.out
        rw [hwe] at HBE ⊢
        refine wpAnyZ_oneL (i := 7) (by kernel_rfl) rfl (fun K hK => ?_)
        rw [if_pos (by rfl)]
        refine wp_build1 22 25 (.tmp 59) rfl #[.int .i64 k1, .bool c1, .int .i64 n1, .string s1, .slice lo1 ln1 lc1, .slice ko1 kn1 kc1] iV _ Tryz.underlying22 HI.out hzV 6 hnV (by decide) (by decide) rfl rfl ?_
        obtain ⟨V7, hV7⟩ : ∃ V7, we.alloc (.cells #[.int .i64 k1, .bool c1, .int .i64 n1, .string s1, .slice lo1 ln1 lc1, .slice ko1 kn1 kc1] 25) = V7 := ⟨_, rfl⟩
        have hk7 : V7.heap[we.heap.size]? = some (.cells #[.int .i64 k1, .bool c1, .int .i64 n1, .string s1, .slice lo1 ln1 lc1, .slice ko1 kn1 kc1] 25 (0, 0)) := by rw [← hV7]; exact hp_new rfl
        have HBE7 : Hid (Below we.heap.size we V7) := by unfold Hid; rw [← hV7]; exact (Below.refl _ _).alloc (Nat.le_refl _) _
        have HBV7 : Hid (Below (W.heap.size + 3) W4 V7) := HBE.out.trans (HBE7.out.mono (by omega))
        have HSV7 := Lib.hid (HSE.out.below HBE7.out)
        have HXV : Hid (EVal.R (fun b => C b ∧ (Value.slice ln0 A.length lcap).ownBlock ≠ some b) V7 y.2 [.int .i64 k1, .bool c1, .int .i64 n1, .string s1, .slice lo1 ln1 lc1, .slice ko1 kn1 kc1]) := VCellB.mono (fun q hq => ⟨hq, fun e => by have := (HSV7.out.vs.low q e).1; have := HCL.out q hq; omega⟩) _ _ (HVY.out V7 (HB4.out.trans (HBV7.out.mono (by omega))))
        rw [hV7]
        clear hV7
        refine hK.out _ _ (fun _ => HS11.out _ HBV7.out ((HBE7.out.block _ hze).trans HHE.out)) (fun hHeld => ?_)
        replace hHeld := hHeld (by decide)
        clear hK K
        try simp only [Act.put, List.setIfInBounds_toArray, List.set_cons_zero, List.set_cons_succ]
        have hz7 : W.heap.size + 3 < V7.heap.size := Nat.lt_of_lt_of_le hze HBE7.out.size
        refine wpAnyZ_oneL (i := 8) (by kernel_rfl) rfl (fun K hK => ?_)
        rw [if_pos (by rfl)]
        refine wp_own_push (E := EVal) (.tmp 54) (.tmp 60) 22 rfl (W.heap.size + 3 + 1) 25 iV _ 88 Tryz.underlying22 HI.out hzV hnV hyV rfl _ (.slice ln0 A.length lcap) rfl HSV7.out.vs y.2 [.int .i64 k1, .bool c1, .int .i64 n1, .string s1, .slice lo1 ln1 lc1, .slice ko1 kn1 kc1] HXV.out we.heap.size (0, 0) hk7 rfl (by rw [List.length_map]; have := HZL.out; unfold maxLen; omega) (by rw [List.length_map]; have := HZL.out; omega) (by omega) ?_
        intro u8 v8 hown hgrow hpu
        obtain ⟨g9, p9, hv8⟩ := hpu.form
        rw [List.length_map] at hv8
        subst hv8
        have hD8 : v8.heap[W.heap.size + 3]? = V7.heap[W.heap.size + 3]? := hgrow.block _ hz7 (fun e => by have := (HSV7.out.vs.low _ e.symm).1; omega)
        have hK8 := hD8.trans HSV7.out.blk
        have HB10 : Hid (Below (W.heap.size + 3) W4 v8) := HBV7.out.trans (below_grown hgrow (by omega) (fun q e => by have := (HSV7.out.vs.low q e).1; omega))
        have c84 : v8.cell? ⟨W.heap.size + 3, 4, none⟩ = some (.slice ln0 A.length lcap) := cell_of_blk hK8 4
        have f84 : v8.frozen? ⟨W.heap.size + 3, 4, none⟩ = false := free_of_blk hK8 4
        have hwr := wrote_setCell hK8 4 (.slice (some ⟨g9, 0, none⟩) (A.length + 1) p9)
        have HSTF := Lib.hid (HSV7.out.val hown hgrow hpu hwr)
        have HBF := Lib.hid (HB10.out.trans (hwr.below (Nat.le_refl _)))
        have HS8 := Lib.hid (HS11.out _ HB10.out (hD8.trans ((HBE7.out.block _ hze).trans HHE.out)))
        clear hown hgrow hpu hD8 hK8 hwr hk7
        refine hK.out _ _ (fun _ => HS8.out) (fun hHeld => ?_)
        replace hHeld := hHeld (by decide)
        clear hK K
        try simp only [Act.put, List.setIfInBounds_toArray, List.set_cons_zero, List.set_cons_succ]
        refine wpAnyZ_oneL (i := 9) (by kernel_rfl) rfl (fun K hK => ?_)
        go_simp
        refine hK.out _ _ (fun h => absurd h (by decide)) (fun _ => ?_)
        clear hK K
        try simp only [Act.put, List.setIfInBounds_toArray, List.set_cons_zero, List.set_cons_succ]
        refine wpAnyZ_oneL (i := 10) (by kernel_rfl) rfl (fun K hK => ?_)
        go_simp
        refine hK.out _ _ (fun h => absurd h (by decide)) (fun _ => ?_)
        clear hK K
        try simp only [Act.put, List.setIfInBounds_toArray, List.set_cons_zero, List.set_cons_succ]
        refine wpAnyZ_done (by kernel_rfl) ?_ _
        clear c84 f84 hHeld HS8 HS11
        generalize v8.setCell ⟨W.heap.size + 3, 4, none⟩ (.slice (some ⟨g9, 0, none⟩) (A.length + 1) p9) = wf at *
        go_wp2_with fail
        go_roundg (l.length - (i + 1))
        case measure => omega
        case rel => exact ⟨i + 1, _, A ++ [y], _, _, rfl, HFN.out, by go_num, by omega, rfl, by rw [List.map_append, List.map_append]; exact HSTF.out, HBF.out⟩
      | false =>
        have CA : Hid (∀ W', (W'.cell? ⟨W.heap.size, 5, none⟩ = some (.slice (some ⟨b1, o1, none⟩) l.length kc) ∧ W'.cell? ⟨W.heap.size + 1, 0, none⟩ = some (.string x.1) ∧ W'.cell? ⟨b1, o1 + i, none⟩ = some (.string l[i].1) ∧ Below wr.heap.size wr W') → Calls Tryz.prog 64 #[.string x.1, .string l[i].1] W' fun e w' => e = .returned (.int .i64 (natC (nmR x) (nmR l[i]))) ∧ (w'.cell? ⟨W.heap.size, 5, none⟩ = some (.slice (some ⟨b1, o1, none⟩) l.length kc) ∧ w'.cell? ⟨W.heap.size + 1, 0, none⟩ = some (.string x.1) ∧ w'.cell? ⟨b1, o1 + i, none⟩ = some (.string l[i].1) ∧ Below wr.heap.size wr w')) := fun W' hS => (CM W').out.mono (by
          rintro e w' ⟨rfl, hu⟩
          have hb : Below wr.heap.size wr w' := hS.2.2.2.trans (hu.b.mono hS.2.2.2.size)
          have hb2 : Below (W.heap.size + 3) W4 w' := HB.out.trans (hb.mono (by have := HB.out.size; omega))
          obtain ⟨_, q5, y0, _⟩ := HF.out w' hb2
          exact ⟨rfl, q5, y0, (HE.out w' (HBW.out.trans (hb.mono HBW.out.size))).1, hb⟩)
        have HS0 : Hid (wr.drew.cell? ⟨W.heap.size, 5, none⟩ = some (.slice (some ⟨b1, o1, none⟩) l.length kc) ∧ wr.drew.cell? ⟨W.heap.size + 1, 0, none⟩ = some (.string x.1) ∧ wr.drew.cell? ⟨b1, o1 + i, none⟩ = some (.string l[i].1) ∧ Below wr.heap.size wr wr.drew) := ⟨g5, x0, e0, (Below.refl _ _).drew⟩
        clear CM
        generalize l[i] = y at *
        have HST6 : Hid (natC (nmR x) (nmR y) < 0 → foldW x l (i + 1) = (true, A ++ [x] ++ [y])) := fun h => by rw [HSC.out, HFO.out]; unfold stepW; rw [if_neg (by simp), if_pos h]
        have HST7 : Hid (¬ natC (nmR x) (nmR y) < 0 → foldW x l (i + 1) = (false, A ++ [y])) := fun h => by rw [HSC.out, HFO.out]; unfold stepW; rw [if_neg (by simp), if_neg h]
        clear HSC HFO
        generalize natC (nmR x) (nmR y) = cc at *
        by_cases hc0 : cc < 0
        · have HFN := Lib.hid (HST6.out hc0)
          have HZL : Hid (A.length ≤ 1024) := by have h1 := foldW_bnd x l (i + 1) (by omega); rw [HFN.out] at h1; dsimp only at h1; rw [List.length_append, List.length_append, List.length_singleton, List.length_singleton] at h1; unfold Hid; omega
          clear HST6 HST7
          go_upto_region 6 with fail
          go_region_held3 (fun w' => w'.cell? ⟨W.heap.size, 5, none⟩ = some (.slice (some ⟨b1, o1, none⟩) l.length kc) ∧ w'.cell? ⟨W.heap.size + 1, 0, none⟩ = some (.string x.1) ∧ w'.cell? ⟨b1, o1 + i, none⟩ = some (.string y.1) ∧ Below wr.heap.size wr w') (first | exact HS0.out | exact hSB | go_keep)
            (first | (go_at_call 64; refine (CA.out _ (by assumption)).mono ?_; rintro e wB ⟨rfl, hSB⟩))
          have HBZ : Hid (Below (W.heap.size + 3) W4 wB) := HB.out.trans (hSB.2.2.2.mono (by have := HB.out.size; omega))
          have HSTZ := Lib.hid (HST.out.below hSB.2.2.2)
          clear hSB CA HS0 HST HB HBW g4 g5 x0 x1 x2 x3 x4 x5 x6 e0 e1 e2 e3 e4 e5 e6
          generalize wB = wz at *
          obtain ⟨kn, kcap, hkv⟩ := HSTZ.out.ks.form
          obtain ⟨ln0, lcap, hlv⟩ := HSTZ.out.vs.form
          rw [List.length_map] at hkv hlv
          subst hkv hlv
          have c35 : wz.cell? ⟨W.heap.size + 3, 5, none⟩ = some (.slice kn A.length kcap) := cell_of_blk HSTZ.out.blk 5
          have x0 := (HF.out wz HBZ.out).2.2.1
          have hzz : W.heap.size + 3 < wz.heap.size := (Array.getElem?_eq_some_iff.1 HSTZ.out.blk).1
          have HBA : Hid (Below wz.heap.size wz (wz.alloc (.cells #[.string x.1] 9 (0, 0)))) := (Below.refl _ _).alloc (Nat.le_refl _) _
          have HA := Lib.hid (HSTZ.out.below HBA.out)
          as_aux_lemma =>
          go_wp2_with (at_builtin; refine wpList_own_push (E := EStr) rfl _ _ 23 rfl (W.heap.size + 3 + 1) 9 i9 _ 16 Tryz.underlying23 HI9.out hz9 hn9 hy9 rfl _ (.slice kn A.length kcap) rfl HA.out.ks x.1 [.string x.1] rfl wz.heap.size (0, 0) (hp_new rfl) rfl (by rw [List.length_map]; have := HZL.out; unfold maxLen; omega) (by rw [List.length_map]; have := HZL.out; omega) (by simp; omega) ?_)
          intro v6 w6 hown hgrow hpu
          obtain ⟨g6, p6, hv6⟩ := hpu.form
          try rw [List.length_map] at hv6
          subst hv6
          have hzA : W.heap.size + 3 < (wz.alloc (.cells #[.string x.1] 9 (0, 0))).heap.size := Nat.lt_of_lt_of_le hzz HBA.out.size
          have hK6 := (hgrow.block _ hzA (fun e => by have := (HA.out.ks.low _ e.symm).1; omega)).trans HA.out.blk
          have HB6 : Hid (Below (W.heap.size + 3) W4 w6) := (HBZ.out.trans (HBA.out.mono (by omega))).trans (below_grown hgrow (by omega) (fun q e => by have := (HA.out.ks.low q e).1; omega))
          have c65 : w6.cell? ⟨W.heap.size + 3, 5, none⟩ = some (.slice kn A.length kcap) := cell_of_blk hK6 5
          have f65 : w6.frozen? ⟨W.heap.size + 3, 5, none⟩ = false := free_of_blk hK6 5
          have hwr5 := wrote_setCell hK6 5 (.slice (some ⟨g6, 0, none⟩) (A.length + 1) p6)
          obtain ⟨w5, hw5⟩ : ∃ w5, w6.setCell ⟨W.heap.size + 3, 5, none⟩ (.slice (some ⟨g6, 0, none⟩) (A.length + 1) p6) = w5 := ⟨_, rfl⟩
          rw [hw5] at hwr5
          have HST5 := Lib.hid (HA.out.key (n := A.length) hown hgrow (by rw [show (wz.alloc (.cells #[.string x.1] 9 (0, 0))).heap.size = wz.heap.size + 1 by simp]; exact hpu) hwr5)
          have HB5 := Lib.hid (HB6.out.trans (hwr5.below (Nat.le_refl _)))
          obtain ⟨_, _, _, x1, x2, x3, x4, x5, x6⟩ := HF.out w5 HB5.out
          have c54 : w5.cell? ⟨W.heap.size + 3, 4, none⟩ = some (.slice ln0 A.length lcap) := cell_of_blk HST5.out.blk 4
          clear hown hgrow hpu hzA hK6 HB6 hwr5 HA HBA c35 x0 HSTZ HBZ
          have HBX : Hid (Below w5.heap.size w5 (w5.alloc (.cells #[.int .i64 xk, .bool xb, .int .i64 xn, .string xs, .slice xlo xln xlc, .slice xko xkn xkc] 25 (0, 0)))) := (Below.refl _ _).alloc (Nat.le_refl _) _
          have hzw5 : W.heap.size + 3 < w5.heap.size := (Array.getElem?_eq_some_iff.1 HST5.out.blk).1
          have HB5X : Hid (Below (W.heap.size + 3) W4 (w5.alloc (.cells #[.int .i64 xk, .bool xb, .int .i64 xn, .string xs, .slice xlo xln xlc, .slice xko xkn xkc] 25 (0, 0)))) := HB5.out.trans (HBX.out.mono (by omega))
          have HA5 := Lib.hid (HST5.out.below HBX.out)
          have HVX : Hid (EVal.R (fun b => C b ∧ (Value.slice ln0 A.length lcap).ownBlock ≠ some b) (w5.alloc (.cells #[.int .i64 xk, .bool xb, .int .i64 xn, .string xs, .slice xlo xln xlc, .slice xko xkn xkc] 25 (0, 0))) x.2 [.int .i64 xk, .bool xb, .int .i64 xn, .string xs, .slice xlo xln xlc, .slice xko xkn xkc]) := by
            obtain ⟨cs, h1, h2⟩ := VAtB.below ⟨_, rfl, HCW.out _ _ HX.out⟩ (HB4.out.trans (HB5X.out.mono (by omega)))
            have h3 : cs = _ := (List.toArray_inj (Value.agg.inj h1)).symm
            subst h3
            exact VCellB.mono (fun q hq => ⟨hq, fun e => by have := (HA5.out.vs.low q e).1; have := HCL.out q hq; omega⟩) _ _ h2
          go_wp2_with (first | (refine wpList_build1 rfl 22 25 (.tmp 39) rfl #[.int .i64 xk, .bool xb, .int .i64 xn, .string xs, .slice xlo xln xlc, .slice xko xkn xkc] iV _ Tryz.underlying22 HI.out hzV 6 hnV (by decide) (by decide) rfl rfl ?_) | (at_builtin; refine wpList_own_push (E := EVal) rfl _ _ 22 rfl (W.heap.size + 3 + 1) 25 iV _ 88 Tryz.underlying22 HI.out hzV hnV hyV rfl _ (.slice ln0 A.length lcap) rfl HA5.out.vs x.2 [.int .i64 xk, .bool xb, .int .i64 xn, .string xs, .slice xlo xln xlc, .slice xko xkn xkc] HVX.out w5.heap.size (0, 0) (hp_new rfl) rfl (by rw [List.length_map]; have := HZL.out; unfold maxLen; omega) (by rw [List.length_map]; have := HZL.out; omega) (by simp; omega) ?_))
          intro u8 v8 hown hgrow hpu
          obtain ⟨g9, p9, hv8⟩ := hpu.form
          try rw [List.length_map] at hv8
          subst hv8
          have hzA : W.heap.size + 3 < (w5.alloc (.cells #[.int .i64 xk, .bool xb, .int .i64 xn, .string xs, .slice xlo xln xlc, .slice xko xkn xkc] 25 (0, 0))).heap.size := Nat.lt_of_lt_of_le hzw5 HBX.out.size
          have hK8 := (hgrow.block _ hzA (fun e => by have := (HA5.out.vs.low _ e.symm).1; omega)).trans HA5.out.blk
          have HB8 : Hid (Below (W.heap.size + 3) W4 v8) := HB5X.out.trans (below_grown hgrow (by omega) (fun q e => by have := (HA5.out.vs.low q e).1; omega))
          have c84 : v8.cell? ⟨W.heap.size + 3, 4, none⟩ = some (.slice ln0 A.length lcap) := cell_of_blk hK8 4
          have f84 : v8.frozen? ⟨W.heap.size + 3, 4, none⟩ = false := free_of_blk hK8 4
          have hwr4 := wrote_setCell hK8 4 (.slice (some ⟨g9, 0, none⟩) (A.length + 1) p9)
          obtain ⟨w9, hw9⟩ : ∃ w9, v8.setCell ⟨W.heap.size + 3, 4, none⟩ (.slice (some ⟨g9, 0, none⟩) (A.length + 1) p9) = w9 := ⟨_, rfl⟩
          rw [hw9] at hwr4
          have HSTQ := Lib.hid (HA5.out.val (n := A.length) hown hgrow (by rw [show (w5.alloc (.cells #[.int .i64 xk, .bool xb, .int .i64 xn, .string xs, .slice xlo xln xlc, .slice xko xkn xkc] 25 (0, 0))).heap.size = w5.heap.size + 1 by simp]; exact hpu) hwr4)
          have HBQ := Lib.hid (HB8.out.trans (hwr4.below (Nat.le_refl _)))
          clear hown hgrow hpu hzA hK8 HB8 hwr4 HA5 HBX HB5X HVX HST5 HB5 hw5 x1 x2 x3 x4 x5 x6 c54
          go_upto_region 10 with fail
          clear hw9 c84 f84
          obtain ⟨kv, lv, hst2⟩ : ∃ kv lv, TwSt (W.heap.size + 3) C ((A ++ [x]).map (·.1)) ((A ++ [x]).map (·.2)) kv lv w9 := ⟨_, _, by rw [List.map_append, List.map_append]; exact HSTQ.out⟩
          have HSTZ := Lib.hid hst2
          clear hst2
          have HBZ := Lib.hid HBQ.out
          clear HSTQ HBQ HZL
          generalize w9 = wz at *
          generalize A ++ [x] = A at *
          obtain ⟨kn, kcap, hkv⟩ := HSTZ.out.ks.form
          obtain ⟨ln0, lcap, hlv⟩ := HSTZ.out.vs.form
          rw [List.length_map] at hkv hlv
          subst hkv hlv
          have HZL : Hid (A.length ≤ 1025) := by have h1 := foldW_bnd x l (i + 1) (by omega); rw [HFN.out] at h1; dsimp only at h1; rw [List.length_append, List.length_singleton] at h1; unfold Hid; omega
          have HS10 : Hid (∀ W' : World, Below (W.heap.size + 3) W4 W' → W'.heap[W.heap.size + 3]? = wz.heap[W.heap.size + 3]? → W'.cell? ⟨W.heap.size + 3, 5, none⟩ = some (.slice kn A.length kcap) ∧ W'.cell? ⟨W.heap.size, 5, none⟩ = some (.slice (some ⟨b1, o1, none⟩) l.length kc) ∧ W'.cell? ⟨b1, o1 + i, none⟩ = some (.string y.1)) := fun W' hb h3 => ⟨cell_of_blk (h3.trans HSTZ.out.blk) 5, (HF.out W' hb).2.1, (HE.out W' (HB4.out.trans (hb.mono (by omega)))).1⟩
          have HBD : Hid (Below (W.heap.size + 3) W4 wz.drew) := HBZ.out.drew
          have HZD : Hid (W.heap.size + 3 < wz.heap.size) := (Array.getElem?_eq_some_iff.1 HSTZ.out.blk).1
          as_aux_lemma =>
          refine wp_region_Z (S := fun W' : World => W'.cell? ⟨W.heap.size + 3, 5, none⟩ = some (.slice kn A.length kcap) ∧ W'.cell? ⟨W.heap.size, 5, none⟩ = some (.slice (some ⟨b1, o1, none⟩) l.length kc) ∧ W'.cell? ⟨b1, o1 + i, none⟩ = some (.string y.1)) 9 (by kernel_rfl) (HS10.out _ HBD.out rfl) (fun hHeld => ?_)
          refine wpAnyZ_takeL (i := 0) (v := ?_) rfl (by kernel_rfl) (by kernel_rfl) (by kernel_rfl) (by kernel_rfl) (fun _ _ _ h => h) (Or.inl ⟨by rfl, ?_⟩) (by assumption) ?_
          rotate_left
          · (intro w hSw; (try dsimp only at hSw); go_simp; try with_reducible rfl)
          try simp only [Act.put, List.setIfInBounds_toArray, List.set_cons_zero, List.set_cons_succ]
          refine wpAnyZ_takeL (i := 1) (v := ?_) rfl (by kernel_rfl) (by kernel_rfl) (by kernel_rfl) (by kernel_rfl) (fun _ _ _ h => h) (Or.inl ⟨by rfl, ?_⟩) (by assumption) ?_
          rotate_left
          · (intro w hSw; (try dsimp only at hSw); go_simp; try with_reducible rfl)
          try simp only [Act.put, List.setIfInBounds_toArray, List.set_cons_zero, List.set_cons_succ]
          refine wpAnyZ_takeL (i := 2) (v := ?_) rfl (by kernel_rfl) (by kernel_rfl) (by kernel_rfl) (by kernel_rfl) (fun _ _ _ h => h) (Or.inl ⟨by rfl, ?_⟩) (by assumption) ?_
          rotate_left
          · (intro w hSw; (try dsimp only at hSw); go_simp; try with_reducible rfl)
          try simp only [Act.put, List.setIfInBounds_toArray, List.set_cons_zero, List.set_cons_succ]
          refine wpAnyZ_takeL (i := 3) (v := ?_) rfl (by kernel_rfl) (by kernel_rfl) (by kernel_rfl) (by kernel_rfl) (fun _ _ _ h => h) (Or.inl ⟨by rfl, ?_⟩) (by assumption) ?_
          rotate_left
          · (intro w hSw; (try dsimp only at hSw); go_simp; try with_reducible rfl)
          try simp only [Act.put, List.setIfInBounds_toArray, List.set_cons_zero, List.set_cons_succ]
          refine wpAnyZ_takeL (i := 4) (v := ?_) rfl (by kernel_rfl) (by kernel_rfl) (by kernel_rfl) (by kernel_rfl) (fun _ _ _ h => h) (Or.inl ⟨by rfl, ?_⟩) (by assumption) ?_
          rotate_left
          · (intro w hSw; (try dsimp only at hSw); go_simp; try with_reducible rfl)
          try simp only [Act.put, List.setIfInBounds_toArray, List.set_cons_zero, List.set_cons_succ]
          refine wpAnyZ_takeL (i := 5) (v := ?_) rfl (by kernel_rfl) (by kernel_rfl) (by kernel_rfl) (by kernel_rfl) (fun _ _ _ h => h) (Or.inl ⟨by rfl, ?_⟩) (by assumption) ?_
          rotate_left
          · (intro w hSw; (try dsimp only at hSw); go_simp; try with_reducible rfl)
          try simp only [Act.put, List.setIfInBounds_toArray, List.set_cons_zero, List.set_cons_succ]
          refine wpAnyZ_takeL (i := 6) (v := ?_) rfl (by kernel_rfl) (by kernel_rfl) (by kernel_rfl) (by kernel_rfl) (fun _ _ _ h => h) (Or.inl ⟨by rfl, ?_⟩) (by assumption) ?_
          rotate_left
          · (intro w hSw; (try dsimp only at hSw); go_simp; try with_reducible rfl)
          try simp only [Act.put, List.setIfInBounds_toArray, List.set_cons_zero, List.set_cons_succ]
          obtain ⟨wd, hwd⟩ : ∃ wd, wz.drew = wd := ⟨_, rfl⟩
          have HSD : Hid (TwSt (W.heap.size + 3) C (A.map (·.1)) (A.map (·.2)) (.slice kn A.length kcap) (.slice ln0 A.length lcap) wd) := by unfold Hid; rw [← hwd]; exact HSTZ.out.below ((Below.refl _ _).drew)
          have HHD : Hid (wd.heap[W.heap.size + 3]? = wz.heap[W.heap.size + 3]?) := by unfold Hid; rw [← hwd]; rfl
          have hzd : W.heap.size + 3 < wd.heap.size := by rw [← hwd]; exact HZD.out
          rw [hwd] at HBD ⊢
          refine wpAnyZ_oneL (i := 7) (by kernel_rfl) rfl (fun K hK => ?_)
          rw [if_pos (by rfl)]
          refine wp_build1 23 9 (.tmp 49) rfl #[.string y.1] i9 _ Tryz.underlying23 HI9.out hz9 1 hn9 (by decide) (by decide) rfl rfl ?_
          obtain ⟨W7, hW7⟩ : ∃ W7, wd.alloc (.cells #[.string y.1] 9) = W7 := ⟨_, rfl⟩
          have hk7 : W7.heap[wd.heap.size]? = some (.cells #[.string y.1] 9 (0, 0)) := by rw [← hW7]; exact hp_new rfl
          have HBD7 : Hid (Below wd.heap.size wd W7) := by unfold Hid; rw [← hW7]; exact (Below.refl _ _).alloc (Nat.le_refl _) _
          have HB7 : Hid (Below (W.heap.size + 3) W4 W7) := HBD.out.trans (HBD7.out.mono (by omega))
          have HST7 := Lib.hid (HSD.out.below HBD7.out)
          rw [hW7]
          clear hW7
          refine hK.out _ _ (fun _ => HS10.out _ HB7.out ((HBD7.out.block _ hzd).trans HHD.out)) (fun hHeld => ?_)
          replace hHeld := hHeld (by decide)
          clear hK K
          try simp only [Act.put, List.setIfInBounds_toArray, List.set_cons_zero, List.set_cons_succ]
          have hz7 : W.heap.size + 3 < W7.heap.size := Nat.lt_of_lt_of_le hzd HBD7.out.size
          refine wpAnyZ_oneL (i := 8) (by kernel_rfl) rfl (fun K hK => ?_)
          rw [if_pos (by rfl)]
          refine wp_own_push (E := EStr) (.tmp 44) (.tmp 50) 23 rfl (W.heap.size + 3 + 1) 9 i9 _ 16 Tryz.underlying23 HI9.out hz9 hn9 hy9 rfl _ (.slice kn A.length kcap) rfl HST7.out.ks y.1 [.string y.1] rfl wd.heap.size (0, 0) hk7 rfl (by rw [List.length_map]; have := HZL.out; unfold maxLen; omega) (by rw [List.length_map]; have := HZL.out; omega) (by omega) ?_
          intro v8 w8 hown hgrow hpu
          obtain ⟨g8, p8, hv8⟩ := hpu.form
          rw [List.length_map] at hv8
          subst hv8
          have hD8 : w8.heap[W.heap.size + 3]? = W7.heap[W.heap.size + 3]? := hgrow.block _ hz7 (fun e => by have := (HST7.out.ks.low _ e.symm).1; omega)
          have hK8 := hD8.trans HST7.out.blk
          have HB8 : Hid (Below (W.heap.size + 3) W4 w8) := HB7.out.trans (below_grown hgrow (by omega) (fun q e => by have := (HST7.out.ks.low q e).1; omega))
          have c85 : w8.cell? ⟨W.heap.size + 3, 5, none⟩ = some (.slice kn A.length kcap) := cell_of_blk hK8 5
          have f85 : w8.frozen? ⟨W.heap.size + 3, 5, none⟩ = false := free_of_blk hK8 5
          have hwr := wrote_setCell hK8 5 (.slice (some ⟨g8, 0, none⟩) (A.length + 1) p8)
          have HST9 := Lib.hid (HST7.out.key hown hgrow hpu hwr)
          have HB9 := Lib.hid (HB8.out.trans (hwr.below (Nat.le_refl _)))
          have HS8 := Lib.hid (HS10.out _ HB8.out (hD8.trans ((HBD7.out.block _ hzd).trans HHD.out)))
          clear hown hgrow hpu hD8 hK8 hwr hk7
          refine hK.out _ _ (fun _ => HS8.out) (fun hHeld => ?_)
          replace hHeld := hHeld (by decide)
          clear hK K
          try simp only [Act.put, List.setIfInBounds_toArray, List.set_cons_zero, List.set_cons_succ]
          refine wpAnyZ_oneL (i := 9) (by kernel_rfl) rfl (fun K hK => ?_)
          go_simp
          refine hK.out _ _ (fun h => absurd h (by decide)) (fun _ => ?_)
          clear hK K
          try simp only [Act.put, List.setIfInBounds_toArray, List.set_cons_zero, List.set_cons_succ]
          refine wpAnyZ_oneL (i := 10) (by kernel_rfl) rfl (fun K hK => ?_)
          go_simp
          refine hK.out _ _ (fun h => absurd h (by decide)) (fun _ => ?_)
          clear hK K
          try simp only [Act.put, List.setIfInBounds_toArray, List.set_cons_zero, List.set_cons_succ]
          refine wpAnyZ_done (by kernel_rfl) ?_ _
          clear c85 f85 hHeld HS8 HS10
          generalize w8.setCell ⟨W.heap.size + 3, 5, none⟩ (.slice (some ⟨g8, 0, none⟩) (A.length + 1) p8) = w9 at *
          clear HBD HBD7 HB7 HST7 HSD HHD hzd hz7 HB8 HSTZ HBZ HZD
          have HS11 : Hid (∀ W' : World, Below (W.heap.size + 3) W4 W' → W'.heap[W.heap.size + 3]? = w9.heap[W.heap.size + 3]? → W'.cell? ⟨W.heap.size + 3, 4, none⟩ = some (.slice ln0 A.length lcap) ∧ W'.cell? ⟨W.heap.size, 4, none⟩ = some (.slice (some ⟨bl, off, none⟩) l.length lc) ∧ W'.cell? ⟨bl, off + i * 6, none⟩ = some (.int .i64 k1) ∧ W'.cell? ⟨bl, off + i * 6 + 1, none⟩ = some (.bool c1) ∧ W'.cell? ⟨bl, off + i * 6 + 2, none⟩ = some (.int .i64 n1) ∧ W'.cell? ⟨bl, off + i * 6 + 3, none⟩ = some (.string s1) ∧ W'.cell? ⟨bl, off + i * 6 + 4, none⟩ = some (.slice lo1 ln1 lc1) ∧ W'.cell? ⟨bl, off + i * 6 + 5, none⟩ = some (.slice ko1 kn1 kc1)) := fun W' hb h3 => ⟨cell_of_blk (h3.trans HST9.out.blk) 4, (HF.out W' hb).1, (HE.out W' (HB4.out.trans (hb.mono (by omega)))).2⟩
          have HBE : Hid (Below (W.heap.size + 3) W4 w9.drew) := HB9.out.drew
          have HZE : Hid (W.heap.size + 3 < w9.heap.size) := (Array.getElem?_eq_some_iff.1 HST9.out.blk).1
          as_aux_lemma =>
          go_upto_region 11 with fail
          refine wp_region_Z (S := fun W' : World => W'.cell? ⟨W.heap.size + 3, 4, none⟩ = some (.slice ln0 A.length lcap) ∧ W'.cell? ⟨W.heap.size, 4, none⟩ = some (.slice (some ⟨bl, off, none⟩) l.length lc) ∧ W'.cell? ⟨bl, off + i * 6, none⟩ = some (.int .i64 k1) ∧ W'.cell? ⟨bl, off + i * 6 + 1, none⟩ = some (.bool c1) ∧ W'.cell? ⟨bl, off + i * 6 + 2, none⟩ = some (.int .i64 n1) ∧ W'.cell? ⟨bl, off + i * 6 + 3, none⟩ = some (.string s1) ∧ W'.cell? ⟨bl, off + i * 6 + 4, none⟩ = some (.slice lo1 ln1 lc1) ∧ W'.cell? ⟨bl, off + i * 6 + 5, none⟩ = some (.slice ko1 kn1 kc1)) 9 (by kernel_rfl) (HS11.out _ HBE.out rfl) (fun hHeld => ?_)
          refine wpAnyZ_takeL (i := 0) (v := ?_) rfl (by kernel_rfl) (by kernel_rfl) (by kernel_rfl) (by kernel_rfl) (fun _ _ _ h => h) (Or.inl ⟨by rfl, ?_⟩) (by assumption) ?_
          rotate_left
          · (intro w hSw; (try dsimp only at hSw); go_simp; try with_reducible rfl)
          try simp only [Act.put, List.setIfInBounds_toArray, List.set_cons_zero, List.set_cons_succ]
          refine wpAnyZ_takeL (i := 1) (v := ?_) rfl (by kernel_rfl) (by kernel_rfl) (by kernel_rfl) (by kernel_rfl) (fun _ _ _ h => h) (Or.inl ⟨by rfl, ?_⟩) (by assumption) ?_
          rotate_left
          · (intro w hSw; (try dsimp only at hSw); go_simp; try with_reducible rfl)
          try simp only [Act.put, List.setIfInBounds_toArray, List.set_cons_zero, List.set_cons_succ]
          refine wpAnyZ_takeL (i := 2) (v := ?_) rfl (by kernel_rfl) (by kernel_rfl) (by kernel_rfl) (by kernel_rfl) (fun _ _ _ h => h) (Or.inl ⟨by rfl, ?_⟩) (by assumption) ?_
          rotate_left
          · (intro w hSw; (try dsimp only at hSw); go_simp; try with_reducible rfl)
          try simp only [Act.put, List.setIfInBounds_toArray, List.set_cons_zero, List.set_cons_succ]
          refine wpAnyZ_takeL (i := 3) (v := ?_) rfl (by kernel_rfl) (by kernel_rfl) (by kernel_rfl) (by kernel_rfl) (fun _ _ _ h => h) (Or.inl ⟨by rfl, ?_⟩) (by assumption) ?_
          rotate_left
          · (intro w hSw; (try dsimp only at hSw); go_simp; try with_reducible rfl)
          try simp only [Act.put, List.setIfInBounds_toArray, List.set_cons_zero, List.set_cons_succ]
          refine wpAnyZ_takeL (i := 4) (v := ?_) rfl (by kernel_rfl) (by kernel_rfl) (by kernel_rfl) (by kernel_rfl) (fun _ _ _ h => h) (Or.inl ⟨by rfl, ?_⟩) (by assumption) ?_
          rotate_left
          · (intro w hSw; (try dsimp only at hSw); go_simp; try with_reducible rfl)
          try simp only [Act.put, List.setIfInBounds_toArray, List.set_cons_zero, List.set_cons_succ]
          refine wpAnyZ_takeL (i := 5) (v := ?_) rfl (by kernel_rfl) (by kernel_rfl) (by kernel_rfl) (by kernel_rfl) (fun _ _ _ h => h) (Or.inl ⟨by rfl, ?_⟩) (by assumption) ?_
          rotate_left
          · (intro w hSw; (try dsimp only at hSw); go_simp; try with_reducible rfl)
          try simp only [Act.put, List.setIfInBounds_toArray, List.set_cons_zero, List.set_cons_succ]
          refine wpAnyZ_takeL (i := 6) (v := ?_) rfl (by kernel_rfl) (by kernel_rfl) (by kernel_rfl) (by kernel_rfl) (fun _ _ _ h => h) (Or.inl ⟨by rfl, ?_⟩) (by assumption) ?_
          rotate_left
          · (intro w hSw; (try dsimp only at hSw); go_simp; try with_reducible rfl)
          try simp only [Act.put, List.setIfInBounds_toArray, List.set_cons_zero, List.set_cons_succ]
          obtain ⟨we, hwe⟩ : ∃ we, w9.drew = we := ⟨_, rfl⟩
          have HSE : Hid (TwSt (W.heap.size + 3) C (A.map (·.1) ++ [y.1]) (A.map (·.2)) (.slice (some ⟨g8, 0, none⟩) (A.length + 1) p8) (.slice ln0 A.length lcap) we) := by unfold Hid; rw [← hwe]; exact HST9.out.below ((Below.refl _ _).drew)
          have HHE : Hid (we.heap[W.heap.size + 3]? = w9.heap[W.heap.size + 3]?) := by unfold Hid; rw [← hwe]; rfl
          have hze : W.heap.size + 3 < we.heap.size := by rw [← hwe]; exact HZE.out
          rw [hwe] at HBE ⊢
          refine wpAnyZ_oneL (i := 7) (by kernel_rfl) rfl (fun K hK => ?_)
          rw [if_pos (by rfl)]
          refine wp_build1 22 25 (.tmp 59) rfl #[.int .i64 k1, .bool c1, .int .i64 n1, .string s1, .slice lo1 ln1 lc1, .slice ko1 kn1 kc1] iV _ Tryz.underlying22 HI.out hzV 6 hnV (by decide) (by decide) rfl rfl ?_
          obtain ⟨V7, hV7⟩ : ∃ V7, we.alloc (.cells #[.int .i64 k1, .bool c1, .int .i64 n1, .string s1, .slice lo1 ln1 lc1, .slice ko1 kn1 kc1] 25) = V7 := ⟨_, rfl⟩
          have hk7 : V7.heap[we.heap.size]? = some (.cells #[.int .i64 k1, .bool c1, .int .i64 n1, .string s1, .slice lo1 ln1 lc1, .slice ko1 kn1 kc1] 25 (0, 0)) := by rw [← hV7]; exact hp_new rfl
          have HBE7 : Hid (Below we.heap.size we V7) := by unfold Hid; rw [← hV7]; exact (Below.refl _ _).alloc (Nat.le_refl _) _
          have HBV7 : Hid (Below (W.heap.size + 3) W4 V7) := HBE.out.trans (HBE7.out.mono (by omega))
          have HSV7 := Lib.hid (HSE.out.below HBE7.out)
          have HXV : Hid (EVal.R (fun b => C b ∧ (Value.slice ln0 A.length lcap).ownBlock ≠ some b) V7 y.2 [.int .i64 k1, .bool c1, .int .i64 n1, .string s1, .slice lo1 ln1 lc1, .slice ko1 kn1 kc1]) := VCellB.mono (fun q hq => ⟨hq, fun e => by have := (HSV7.out.vs.low q e).1; have := HCL.out q hq; omega⟩) _ _ (HVY.out V7 (HB4.out.trans (HBV7.out.mono (by omega))))
          rw [hV7]
          clear hV7
          refine hK.out _ _ (fun _ => HS11.out _ HBV7.out ((HBE7.out.block _ hze).trans HHE.out)) (fun hHeld => ?_)
          replace hHeld := hHeld (by decide)
          clear hK K
          try simp only [Act.put, List.setIfInBounds_toArray, List.set_cons_zero, List.set_cons_succ]
          have hz7 : W.heap.size + 3 < V7.heap.size := Nat.lt_of_lt_of_le hze HBE7.out.size
          refine wpAnyZ_oneL (i := 8) (by kernel_rfl) rfl (fun K hK => ?_)
          rw [if_pos (by rfl)]
          refine wp_own_push (E := EVal) (.tmp 54) (.tmp 60) 22 rfl (W.heap.size + 3 + 1) 25 iV _ 88 Tryz.underlying22 HI.out hzV hnV hyV rfl _ (.slice ln0 A.length lcap) rfl HSV7.out.vs y.2 [.int .i64 k1, .bool c1, .int .i64 n1, .string s1, .slice lo1 ln1 lc1, .slice ko1 kn1 kc1] HXV.out we.heap.size (0, 0) hk7 rfl (by rw [List.length_map]; have := HZL.out; unfold maxLen; omega) (by rw [List.length_map]; have := HZL.out; omega) (by omega) ?_
          intro u8 v8 hown hgrow hpu
          obtain ⟨g9, p9, hv8⟩ := hpu.form
          rw [List.length_map] at hv8
          subst hv8
          have hD8 : v8.heap[W.heap.size + 3]? = V7.heap[W.heap.size + 3]? := hgrow.block _ hz7 (fun e => by have := (HSV7.out.vs.low _ e.symm).1; omega)
          have hK8 := hD8.trans HSV7.out.blk
          have HB10 : Hid (Below (W.heap.size + 3) W4 v8) := HBV7.out.trans (below_grown hgrow (by omega) (fun q e => by have := (HSV7.out.vs.low q e).1; omega))
          have c84 : v8.cell? ⟨W.heap.size + 3, 4, none⟩ = some (.slice ln0 A.length lcap) := cell_of_blk hK8 4
          have f84 : v8.frozen? ⟨W.heap.size + 3, 4, none⟩ = false := free_of_blk hK8 4
          have hwr := wrote_setCell hK8 4 (.slice (some ⟨g9, 0, none⟩) (A.length + 1) p9)
          have HSTF := Lib.hid (HSV7.out.val hown hgrow hpu hwr)
          have HBF := Lib.hid (HB10.out.trans (hwr.below (Nat.le_refl _)))
          have HS8 := Lib.hid (HS11.out _ HB10.out (hD8.trans ((HBE7.out.block _ hze).trans HHE.out)))
          clear hown hgrow hpu hD8 hK8 hwr hk7
          refine hK.out _ _ (fun _ => HS8.out) (fun hHeld => ?_)
          replace hHeld := hHeld (by decide)
          clear hK K
          try simp only [Act.put, List.setIfInBounds_toArray, List.set_cons_zero, List.set_cons_succ]
          refine wpAnyZ_oneL (i := 9) (by kernel_rfl) rfl (fun K hK => ?_)
          go_simp
          refine hK.out _ _ (fun h => absurd h (by decide)) (fun _ => ?_)
          clear hK K
          try simp only [Act.put, List.setIfInBounds_toArray, List.set_cons_zero, List.set_cons_succ]
          refine wpAnyZ_oneL (i := 10) (by kernel_rfl) rfl (fun K hK => ?_)
          go_simp
          refine hK.out _ _ (fun h => absurd h (by decide)) (fun _ => ?_)
          clear hK K
          try simp only [Act.put, List.setIfInBounds_toArray, List.set_cons_zero, List.set_cons_succ]
          refine wpAnyZ_done (by kernel_rfl) ?_ _
          clear c84 f84 hHeld HS8 HS11
          generalize v8.setCell ⟨W.heap.size + 3, 4, none⟩ (.slice (some ⟨g9, 0, none⟩) (A.length + 1) p9) = wf at *
          go_wp2_with fail
          go_roundg (l.length - (i + 1))
          case measure => omega
          case rel => exact ⟨i + 1, _, A ++ [y], _, _, rfl, HFN.out, by go_num, by omega, rfl, by rw [List.map_append, List.map_append]; exact HSTF.out, HBF.out⟩
        · have HFN := Lib.hid (HST7.out hc0)
          clear HST6 HST7
          go_upto_region 6 with fail
          go_region_held3 (fun w' => w'.cell? ⟨W.heap.size, 5, none⟩ = some (.slice (some ⟨b1, o1, none⟩) l.length kc) ∧ w'.cell? ⟨W.heap.size + 1, 0, none⟩ = some (.string x.1) ∧ w'.cell? ⟨b1, o1 + i, none⟩ = some (.string y.1) ∧ Below wr.heap.size wr w') (first | exact HS0.out | exact hSB | go_keep)
            (first | (go_at_call 64; refine (CA.out _ (by assumption)).mono ?_; rintro e wB ⟨rfl, hSB⟩))
          have HBZ : Hid (Below (W.heap.size + 3) W4 wB) := HB.out.trans (hSB.2.2.2.mono (by have := HB.out.size; omega))
          have HSTZ := Lib.hid (HST.out.below hSB.2.2.2)
          clear hSB CA HS0 HST HB HBW g4 g5 x0 x1 x2 x3 x4 x5 x6 e0 e1 e2 e3 e4 e5 e6
          generalize wB = wz at *
          obtain ⟨kn, kcap, hkv⟩ := HSTZ.out.ks.form
          obtain ⟨ln0, lcap, hlv⟩ := HSTZ.out.vs.form
          rw [List.length_map] at hkv hlv
          subst hkv hlv
          have HZL : Hid (A.length ≤ 1025) := by have h1 := foldW_bnd x l (i + 1) (by omega); rw [HFN.out] at h1; dsimp only at h1; rw [List.length_append, List.length_singleton] at h1; unfold Hid; omega
          have HS10 : Hid (∀ W' : World, Below (W.heap.size + 3) W4 W' → W'.heap[W.heap.size + 3]? = wz.heap[W.heap.size + 3]? → W'.cell? ⟨W.heap.size + 3, 5, none⟩ = some (.slice kn A.length kcap) ∧ W'.cell? ⟨W.heap.size, 5, none⟩ = some (.slice (some ⟨b1, o1, none⟩) l.length kc) ∧ W'.cell? ⟨b1, o1 + i, none⟩ = some (.string y.1)) := fun W' hb h3 => ⟨cell_of_blk (h3.trans HSTZ.out.blk) 5, (HF.out W' hb).2.1, (HE.out W' (HB4.out.trans (hb.mono (by omega)))).1⟩
          have HBD : Hid (Below (W.heap.size + 3) W4 wz.drew) := HBZ.out.drew
          have HZD : Hid (W.heap.size + 3 < wz.heap.size) := (Array.getElem?_eq_some_iff.1 HSTZ.out.blk).1
          as_aux_lemma =>
          go_upto_region 10 with fail
          refine wp_region_Z (S := fun W' : World => W'.cell? ⟨W.heap.size + 3, 5, none⟩ = some (.slice kn A.length kcap) ∧ W'.cell? ⟨W.heap.size, 5, none⟩ = some (.slice (some ⟨b1, o1, none⟩) l.length kc) ∧ W'.cell? ⟨b1, o1 + i, none⟩ = some (.string y.1)) 9 (by kernel_rfl) (HS10.out _ HBD.out rfl) (fun hHeld => ?_)
          refine wpAnyZ_takeL (i := 0) (v := ?_) rfl (by kernel_rfl) (by kernel_rfl) (by kernel_rfl) (by kernel_rfl) (fun _ _ _ h => h) (Or.inl ⟨by rfl, ?_⟩) (by assumption) ?_
          rotate_left
          · (intro w hSw; (try dsimp only at hSw); go_simp; try with_reducible rfl)
          try simp only [Act.put, List.setIfInBounds_toArray, List.set_cons_zero, List.set_cons_succ]
          refine wpAnyZ_takeL (i := 1) (v := ?_) rfl (by kernel_rfl) (by kernel_rfl) (by kernel_rfl) (by kernel_rfl) (fun _ _ _ h => h) (Or.inl ⟨by rfl, ?_⟩) (by assumption) ?_
          rotate_left
          · (intro w hSw; (try dsimp only at hSw); go_simp; try with_reducible rfl)
          try simp only [Act.put, List.setIfInBounds_toArray, List.set_cons_zero, List.set_cons_succ]
          refine wpAnyZ_takeL (i := 2) (v := ?_) rfl (by kernel_rfl) (by kernel_rfl) (by kernel_rfl) (by kernel_rfl) (fun _ _ _ h => h) (Or.inl ⟨by rfl, ?_⟩) (by assumption) ?_
          rotate_left
          · (intro w hSw; (try dsimp only at hSw); go_simp; try with_reducible rfl)
          try simp only [Act.put, List.setIfInBounds_toArray, List.set_cons_zero, List.set_cons_succ]
          refine wpAnyZ_takeL (i := 3) (v := ?_) rfl (by kernel_rfl) (by kernel_rfl) (by kernel_rfl) (by kernel_rfl) (fun _ _ _ h => h) (Or.inl ⟨by rfl, ?_⟩) (by assumption) ?_
          rotate_left
          · (intro w hSw; (try dsimp only at hSw); go_simp; try with_reducible rfl)
          try simp only [Act.put, List.setIfInBounds_toArray, List.set_cons_zero, List.set_cons_succ]
          refine wpAnyZ_takeL (i := 4) (v := ?_) rfl (by kernel_rfl) (by kernel_rfl) (by kernel_rfl) (by kernel_rfl) (fun _ _ _ h => h) (Or.inl ⟨by rfl, ?_⟩) (by assumption) ?_
          rotate_left
          · (intro w hSw; (try dsimp only at hSw); go_simp; try with_reducible rfl)
          try simp only [Act.put, List.setIfInBounds_toArray, List.set_cons_zero, List.set_cons_succ]
          refine wpAnyZ_takeL (i := 5) (v := ?_) rfl (by kernel_rfl) (by kernel_rfl) (by kernel_rfl) (by kernel_rfl) (fun _ _ _ h => h) (Or.inl ⟨by rfl, ?_⟩) (by assumption) ?_
          rotate_left
          · (intro w hSw; (try dsimp only at hSw); go_simp; try with_reducible rfl)
          try simp only [Act.put, List.setIfInBounds_toArray, List.set_cons_zero, List.set_cons_succ]
          refine wpAnyZ_takeL (i := 6) (v := ?_) rfl (by kernel_rfl) (by kernel_rfl) (by kernel_rfl) (by kernel_rfl) (fun _ _ _ h => h) (Or.inl ⟨by rfl, ?_⟩) (by assumption) ?_
          rotate_left
          · (intro w hSw; (try dsimp only at hSw); go_simp; try with_reducible rfl)
          try simp only [Act.put, List.setIfInBounds_toArray, List.set_cons_zero, List.set_cons_succ]
          obtain ⟨wd, hwd⟩ : ∃ wd, wz.drew = wd := ⟨_, rfl⟩
          have HSD : Hid (TwSt (W.heap.size + 3) C (A.map (·.1)) (A.map (·.2)) (.slice kn A.length kcap) (.slice ln0 A.length lcap) wd) := by unfold Hid; rw [← hwd]; exact HSTZ.out.below ((Below.refl _ _).drew)
          have HHD : Hid (wd.heap[W.heap.size + 3]? = wz.heap[W.heap.size + 3]?) := by unfold Hid; rw [← hwd]; rfl
          have hzd : W.heap.size + 3 < wd.heap.size := by rw [← hwd]; exact HZD.out
          rw [hwd] at HBD ⊢
          refine wpAnyZ_oneL (i := 7) (by kernel_rfl) rfl (fun K hK => ?_)
          rw [if_pos (by rfl)]
          refine wp_build1 23 9 (.tmp 49) rfl #[.string y.1] i9 _ Tryz.underlying23 HI9.out hz9 1 hn9 (by decide) (by decide) rfl rfl ?_
          obtain ⟨W7, hW7⟩ : ∃ W7, wd.alloc (.cells #[.string y.1] 9) = W7 := ⟨_, rfl⟩
          have hk7 : W7.heap[wd.heap.size]? = some (.cells #[.string y.1] 9 (0, 0)) := by rw [← hW7]; exact hp_new rfl
          have HBD7 : Hid (Below wd.heap.size wd W7) := by unfold Hid; rw [← hW7]; exact (Below.refl _ _).alloc (Nat.le_refl _) _
          have HB7 : Hid (Below (W.heap.size + 3) W4 W7) := HBD.out.trans (HBD7.out.mono (by omega))
          have HST7 := Lib.hid (HSD.out.below HBD7.out)
          rw [hW7]
          clear hW7
          refine hK.out _ _ (fun _ => HS10.out _ HB7.out ((HBD7.out.block _ hzd).trans HHD.out)) (fun hHeld => ?_)
          replace hHeld := hHeld (by decide)
          clear hK K
          try simp only [Act.put, List.setIfInBounds_toArray, List.set_cons_zero, List.set_cons_succ]
          have hz7 : W.heap.size + 3 < W7.heap.size := Nat.lt_of_lt_of_le hzd HBD7.out.size
          refine wpAnyZ_oneL (i := 8) (by kernel_rfl) rfl (fun K hK => ?_)
          rw [if_pos (by rfl)]
          refine wp_own_push (E := EStr) (.tmp 44) (.tmp 50) 23 rfl (W.heap.size + 3 + 1) 9 i9 _ 16 Tryz.underlying23 HI9.out hz9 hn9 hy9 rfl _ (.slice kn A.length kcap) rfl HST7.out.ks y.1 [.string y.1] rfl wd.heap.size (0, 0) hk7 rfl (by rw [List.length_map]; have := HZL.out; unfold maxLen; omega) (by rw [List.length_map]; have := HZL.out; omega) (by omega) ?_
          intro v8 w8 hown hgrow hpu
          obtain ⟨g8, p8, hv8⟩ := hpu.form
          rw [List.length_map] at hv8
          subst hv8
          have hD8 : w8.heap[W.heap.size + 3]? = W7.heap[W.heap.size + 3]? := hgrow.block _ hz7 (fun e => by have := (HST7.out.ks.low _ e.symm).1; omega)
          have hK8 := hD8.trans HST7.out.blk
          have HB8 : Hid (Below (W.heap.size + 3) W4 w8) := HB7.out.trans (below_grown hgrow (by omega) (fun q e => by have := (HST7.out.ks.low q e).1; omega))
          have c85 : w8.cell? ⟨W.heap.size + 3, 5, none⟩ = some (.slice kn A.length kcap) := cell_of_blk hK8 5
          have f85 : w8.frozen? ⟨W.heap.size + 3, 5, none⟩ = false := free_of_blk hK8 5
          have hwr := wrote_setCell hK8 5 (.slice (some ⟨g8, 0, none⟩) (A.length + 1) p8)
          have HST9 := Lib.hid (HST7.out.key hown hgrow hpu hwr)
          have HB9 := Lib.hid (HB8.out.trans (hwr.below (Nat.le_refl _)))
          have HS8 := Lib.hid (HS10.out _ HB8.out (hD8.trans ((HBD7.out.block _ hzd).trans HHD.out)))
          clear hown hgrow hpu hD8 hK8 hwr hk7
          refine hK.out _ _ (fun _ => HS8.out) (fun hHeld => ?_)
          replace hHeld := hHeld (by decide)
          clear hK K
          try simp only [Act.put, List.setIfInBounds_toArray, List.set_cons_zero, List.set_cons_succ]
          refine wpAnyZ_oneL (i := 9) (by kernel_rfl) rfl (fun K hK => ?_)
          go_simp
          refine hK.out _ _ (fun h => absurd h (by decide)) (fun _ => ?_)
          clear hK K
          try simp only [Act.put, List.setIfInBounds_toArray, List.set_cons_zero, List.set_cons_succ]
          refine wpAnyZ_oneL (i := 10) (by kernel_rfl) rfl (fun K hK => ?_)
          go_simp
          refine hK.out _ _ (fun h => absurd h (by decide)) (fun _ => ?_)
          clear hK K
          try simp only [Act.put, List.setIfInBounds_toArray, List.set_cons_zero, List.set_cons_succ]
          refine wpAnyZ_done (by kernel_rfl) ?_ _
          clear c85 f85 hHeld HS8 HS10
          generalize w8.setCell ⟨W.heap.size + 3, 5, none⟩ (.slice (some ⟨g8, 0, none⟩) (A.length + 1) p8) = w9 at *
          clear HBD HBD7 HB7 HST7 HSD HHD hzd hz7 HB8 HSTZ HBZ HZD
          have HS11 : Hid (∀ W' : World, Below (W.heap.size + 3) W4 W' → W'.heap[W.heap.size + 3]? = w9.heap[W.heap.size + 3]? → W'.cell? ⟨W.heap.size + 3, 4, none⟩ = some (.slice ln0 A.length lcap) ∧ W'.cell? ⟨W.heap.size, 4, none⟩ = some (.slice (some ⟨bl, off, none⟩) l.length lc) ∧ W'.cell? ⟨bl, off + i * 6, none⟩ = some (.int .i64 k1) ∧ W'.cell? ⟨bl, off + i * 6 + 1, none⟩ = some (.bool c1) ∧ W'.cell? ⟨bl, off + i * 6 + 2, none⟩ = some (.int .i64 n1) ∧ W'.cell? ⟨bl, off + i * 6 + 3, none⟩ = some (.string s1) ∧ W'.cell? ⟨bl, off + i * 6 + 4, none⟩ = some (.slice lo1 ln1 lc1) ∧ W'.cell? ⟨bl, off + i * 6 + 5, none⟩ = some (.slice ko1 kn1 kc1)) := fun W' hb h3 => ⟨cell_of_blk (h3.trans HST9.out.blk) 4, (HF.out W' hb).1, (HE.out W' (HB4.out.trans (hb.mono (by omega)))).2⟩
          have HBE : Hid (Below (W.heap.size + 3) W4 w9.drew) := HB9.out.drew
          have HZE : Hid (W.heap.size + 3 < w9.heap.size) := (Array.getElem?_eq_some_iff.1 HST9.out.blk).1
          as_aux_lemma =>
          go_upto_region 11 with fail
          refine wp_region_Z (S := fun W' : World => W'.cell? ⟨W.heap.size + 3, 4, none⟩ = some (.slice ln0 A.length lcap) ∧ W'.cell? ⟨W.heap.size, 4, none⟩ = some (.slice (some ⟨bl, off, none⟩) l.length lc) ∧ W'.cell? ⟨bl, off + i * 6, none⟩ = some (.int .i64 k1) ∧ W'.cell? ⟨bl, off + i * 6 + 1, none⟩ = some (.bool c1) ∧ W'.cell? ⟨bl, off + i * 6 + 2, none⟩ = some (.int .i64 n1) ∧ W'.cell? ⟨bl, off + i * 6 + 3, none⟩ = some (.string s1) ∧ W'.cell? ⟨bl, off + i * 6 + 4, none⟩ = some (.slice lo1 ln1 lc1) ∧ W'.cell? ⟨bl, off + i * 6 + 5, none⟩ = some (.slice ko1 kn1 kc1)) 9 (by kernel_rfl) (HS11.out _ HBE.out rfl) (fun hHeld => ?_)
          refine wpAnyZ_takeL (i := 0) (v := ?_) rfl (by kernel_rfl) (by kernel_rfl) (by kernel_rfl) (by kernel_rfl) (fun _ _ _ h => h) (Or.inl ⟨by rfl, ?_⟩) (by assumption) ?_
          rotate_left
          · (intro w hSw; (try dsimp only at hSw); go_simp; try with_reducible rfl)
          try simp only [Act.put, List.setIfInBounds_toArray, List.set_cons_zero, List.set_cons_succ]
          refine wpAnyZ_takeL (i := 1) (v := ?_) rfl (by kernel_rfl) (by kernel_rfl) (by kernel_rfl) (by kernel_rfl) (fun _ _ _ h => h) (Or.inl ⟨by rfl, ?_⟩) (by assumption) ?_
          rotate_left
          · (intro w hSw; (try dsimp only at hSw); go_simp; try with_reducible rfl)
          try simp only [Act.put, List.setIfInBounds_toArray, List.set_cons_zero, List.set_cons_succ]
          refine wpAnyZ_takeL (i := 2) (v := ?_) rfl (by kernel_rfl) (by kernel_rfl) (by kernel_rfl) (by kernel_rfl) (fun _ _ _ h => h) (Or.inl ⟨by rfl, ?_⟩) (by assumption) ?_
          rotate_left
          · (intro w hSw; (try dsimp only at hSw); go_simp; try with_reducible rfl)
          try simp only [Act.put, List.setIfInBounds_toArray, List.set_cons_zero, List.set_cons_succ]
          refine wpAnyZ_takeL (i := 3) (v := ?_) rfl (by kernel_rfl) (by kernel_rfl) (by kernel_rfl) (by kernel_rfl) (fun _ _ _ h => h) (Or.inl ⟨by rfl, ?_⟩) (by assumption) ?_
          rotate_left
          · (intro w hSw; (try dsimp only at hSw); go_simp; try with_reducible rfl)
          try simp only [Act.put, List.setIfInBounds_toArray, List.set_cons_zero, List.set_cons_succ]
          refine wpAnyZ_takeL (i := 4) (v := ?_) rfl (by kernel_rfl) (by kernel_rfl) (by kernel_rfl) (by kernel_rfl) (fun _ _ _ h => h) (Or.inl ⟨by rfl, ?_⟩) (by assumption) ?_
          rotate_left
          · (intro w hSw; (try dsimp only at hSw); go_simp; try with_reducible rfl)
          try simp only [Act.put, List.setIfInBounds_toArray, List.set_cons_zero, List.set_cons_succ]
          refine wpAnyZ_takeL (i := 5) (v := ?_) rfl (by kernel_rfl) (by kernel_rfl) (by kernel_rfl) (by kernel_rfl) (fun _ _ _ h => h) (Or.inl ⟨by rfl, ?_⟩) (by assumption) ?_
          rotate_left
          · (intro w hSw; (try dsimp only at hSw); go_simp; try with_reducible rfl)
          try simp only [Act.put, List.setIfInBounds_toArray, List.set_cons_zero, List.set_cons_succ]
          refine wpAnyZ_takeL (i := 6) (v := ?_) rfl (by kernel_rfl) (by kernel_rfl) (by kernel_rfl) (by kernel_rfl) (fun _ _ _ h => h) (Or.inl ⟨by rfl, ?_⟩) (by assumption) ?_
          rotate_left
          · (intro w hSw; (try dsimp only at hSw); go_simp; try with_reducible rfl)
          try simp only [Act.put, List.setIfInBounds_toArray, List.set_cons_zero, List.set_cons_succ]
          obtain ⟨we, hwe⟩ : ∃ we, w9.drew = we := ⟨_, rfl⟩
          have HSE : Hid (TwSt (W.heap.size + 3) C (A.map (·.1) ++ [y.1]) (A.map (·.2)) (.slice (some ⟨g8, 0, none⟩) (A.length + 1) p8) (.slice ln0 A.length lcap) we) := by unfold Hid; rw [← hwe]; exact HST9.out.below ((Below.refl _ _).drew)
          have HHE : Hid (we.heap[W.heap.size + 3]? = w9.heap[W.heap.size + 3]?) := by unfold Hid; rw [← hwe]; rfl
          have hze : W.heap.size + 3 < we.heap.size := by rw [← hwe]; exact HZE.out
          rw [hwe] at HBE ⊢
          refine wpAnyZ_oneL (i := 7) (by kernel_rfl) rfl (fun K hK => ?_)
          rw [if_pos (by rfl)]
          refine wp_build1 22 25 (.tmp 59) rfl #[.int .i64 k1, .bool c1, .int .i64 n1, .string s1, .slice lo1 ln1 lc1, .slice ko1 kn1 kc1] iV _ Tryz.underlying22 HI.out hzV 6 hnV (by decide) (by decide) rfl rfl ?_
          obtain ⟨V7, hV7⟩ : ∃ V7, we.alloc (.cells #[.int .i64 k1, .bool c1, .int .i64 n1, .string s1, .slice lo1 ln1 lc1, .slice ko1 kn1 kc1] 25) = V7 := ⟨_, rfl⟩
          have hk7 : V7.heap[we.heap.size]? = some (.cells #[.int .i64 k1, .bool c1, .int .i64 n1, .string s1, .slice lo1 ln1 lc1, .slice ko1 kn1 kc1] 25 (0, 0)) := by rw [← hV7]; exact hp_new rfl
          have HBE7 : Hid (Below we.heap.size we V7) := by unfold Hid; rw [← hV7]; exact (Below.refl _ _).alloc (Nat.le_refl _) _
          have HBV7 : Hid (Below (W.heap.size + 3) W4 V7) := HBE.out.trans (HBE7.out.mono (by omega))
          have HSV7 := Lib.hid (HSE.out.below HBE7.out)
          have HXV : Hid (EVal.R (fun b => C b ∧ (Value.slice ln0 A.length lcap).ownBlock ≠ some b) V7 y.2 [.int .i64 k1, .bool c1, .int .i64 n1, .string s1, .slice lo1 ln1 lc1, .slice ko1 kn1 kc1]) := VCellB.mono (fun q hq => ⟨hq, fun e => by have := (HSV7.out.vs.low q e).1; have := HCL.out q hq; omega⟩) _ _ (HVY.out V7 (HB4.out.trans (HBV7.out.mono (by omega))))
          rw [hV7]
          clear hV7
          refine hK.out _ _ (fun _ => HS11.out _ HBV7.out ((HBE7.out.block _ hze).trans HHE.out)) (fun hHeld => ?_)
          replace hHeld := hHeld (by decide)
          clear hK K
          try simp only [Act.put, List.setIfInBounds_toArray, List.set_cons_zero, List.set_cons_succ]
          have hz7 : W.heap.size + 3 < V7.heap.size := Nat.lt_of_lt_of_le hze HBE7.out.size
          refine wpAnyZ_oneL (i := 8) (by kernel_rfl) rfl (fun K hK => ?_)
          rw [if_pos (by rfl)]
          refine wp_own_push (E := EVal) (.tmp 54) (.tmp 60) 22 rfl (W.heap.size + 3 + 1) 25 iV _ 88 Tryz.underlying22 HI.out hzV hnV hyV rfl _ (.slice ln0 A.length lcap) rfl HSV7.out.vs y.2 [.int .i64 k1, .bool c1, .int .i64 n1, .string s1, .slice lo1 ln1 lc1, .slice ko1 kn1 kc1] HXV.out we.heap.size (0, 0) hk7 rfl (by rw [List.length_map]; have := HZL.out; unfold maxLen; omega) (by rw [List.length_map]; have := HZL.out; omega) (by omega) ?_
          intro u8 v8 hown hgrow hpu
          obtain ⟨g9, p9, hv8⟩ := hpu.form
          rw [List.length_map] at hv8
          subst hv8
          have hD8 : v8.heap[W.heap.size + 3]? = V7.heap[W.heap.size + 3]? := hgrow.block _ hz7 (fun e => by have := (HSV7.out.vs.low _ e.symm).1; omega)
          have hK8 := hD8.trans HSV7.out.blk
          have HB10 : Hid (Below (W.heap.size + 3) W4 v8) := HBV7.out.trans (below_grown hgrow (by omega) (fun q e => by have := (HSV7.out.vs.low q e).1; omega))
          have c84 : v8.cell? ⟨W.heap.size + 3, 4, none⟩ = some (.slice ln0 A.length lcap) := cell_of_blk hK8 4
          have f84 : v8.frozen? ⟨W.heap.size + 3, 4, none⟩ = false := free_of_blk hK8 4
          have hwr := wrote_setCell hK8 4 (.slice (some ⟨g9, 0, none⟩) (A.length + 1) p9)
          have HSTF := Lib.hid (HSV7.out.val hown hgrow hpu hwr)
          have HBF := Lib.hid (HB10.out.trans (hwr.below (Nat.le_refl _)))
          have HS8 := Lib.hid (HS11.out _ HB10.out (hD8.trans ((HBE7.out.block _ hze).trans HHE.out)))
          clear hown hgrow hpu hD8 hK8 hwr hk7
          refine hK.out _ _ (fun _ => HS8.out) (fun hHeld => ?_)
          replace hHeld := hHeld (by decide)
          clear hK K
          try simp only [Act.put, List.setIfInBounds_toArray, List.set_cons_zero, List.set_cons_succ]
          refine wpAnyZ_oneL (i := 9) (by kernel_rfl) rfl (fun K hK => ?_)
          go_simp
          refine hK.out _ _ (fun h => absurd h (by decide)) (fun _ => ?_)
          clear hK K
          try simp only [Act.put, List.setIfInBounds_toArray, List.set_cons_zero, List.set_cons_succ]
          refine wpAnyZ_oneL (i := 10) (by kernel_rfl) rfl (fun K hK => ?_)
          go_simp
          refine hK.out _ _ (fun h => absurd h (by decide)) (fun _ => ?_)
          clear hK K
          try simp only [Act.put, List.setIfInBounds_toArray, List.set_cons_zero, List.set_cons_succ]
          refine wpAnyZ_done (by kernel_rfl) ?_ _
          clear c84 f84 hHeld HS8 HS11
          generalize v8.setCell ⟨W.heap.size + 3, 4, none⟩ (.slice (some ⟨g9, 0, none⟩) (A.length + 1) p9) = wf at *
          go_wp2_with fail
          go_roundg (l.length - (i + 1))
          case measure => omega
          case rel => exact ⟨i + 1, _, A ++ [y], _, _, rfl, HFN.out, by go_num, by omega, rfl, by rw [List.map_append, List.map_append]; exact HSTF.out, HBF.out⟩
    · have hii : ¬ (i : Int) < (l.length : Int) := by omega
      have he : i = l.length := by omega
      have HIN := Lib.hid (foldW_ins x l [])
      have HFL : Hid (l.foldl (stepW x) (false, []) = (d, A)) := by
        have := HFO.out
        unfold foldW at this
        rw [he, List.take_length] at this
        exact this
      have HIN2 : Hid ((if d then A else A ++ [x]) = insN nmR x l) := by
        have := HIN.out
        rw [HFL.out] at this
        exact this
      have HZL : Hid (A.length ≤ 1025) := by have h1 := foldW_bnd x l i hi; rw [HFO.out] at h1; dsimp only at h1; unfold Hid; omega
      clear HIN HFL HFO he
      cases d with
      | true =>
        have HAI : Hid (A = insN nmR x l) := HIN2.out
        obtain ⟨kn, kcap, hkv⟩ := HST.out.ks.form
        obtain ⟨ln0, lcap, hlv⟩ := HST.out.vs.form
        rw [List.length_map] at hkv hlv
        subst hkv hlv
        have hD := HST.out.blk
        have d0 : wr.cell? ⟨W.heap.size + 3, 0, none⟩ = some (.int .i64 5) := cell_of_blk hD 0
        have d1 : wr.cell? ⟨W.heap.size + 3, 1, none⟩ = some (.bool false) := cell_of_blk hD 1
        have d2 : wr.cell? ⟨W.heap.size + 3, 2, none⟩ = some (.int .i64 0) := cell_of_blk hD 2
        have d3 : wr.cell? ⟨W.heap.size + 3, 3, none⟩ = some (.string ⟨#[]⟩) := cell_of_blk hD 3
        have d4 : wr.cell? ⟨W.heap.size + 3, 4, none⟩ = some (.slice ln0 A.length lcap) := cell_of_blk hD 4
        have d5 : wr.cell? ⟨W.heap.size + 3, 5, none⟩ = some (.slice kn A.length kcap) := cell_of_blk hD 5
        have HKR := Lib.hid ((HB.out.block (W.heap.size + 2) (by omega)).trans HK2.out)
        have HV : Hid (EStr.Row (fun b => (B b ∨ W.heap.size ≤ b) ∧ b ≠ W.heap.size + 2) wr (A.map (·.1)) (.slice kn A.length kcap) ∧ EVal.Row (fun b => (B b ∨ W.heap.size ≤ b) ∧ b ≠ W.heap.size + 2) wr (A.map (·.2)) (.slice ln0 A.length lcap)) := ⟨HST.out.ks.row (fun _ h => h.elim) (fun b hb => ⟨.inr (by omega), by omega⟩), HST.out.vs.row (fun b hb => ⟨.inl (HCB.out b hb), by have := HCL.out b hb; omega⟩) (fun b hb => ⟨.inr (by omega), by omega⟩)⟩
        have HBR : Hid (Below W.heap.size W wr) := HB4.out.trans (HB.out.mono (by omega))
        have HEQ := Lib.hid HAI.out
        clear hD HST HB HAI HB4 HF HX HSZ HS HL HK0 HK1 HK2
        as_aux_lemma =>
        go_wp2_with (refine wpList_store_row rfl 25 _ _ rfl (W.heap.size + 2) rfl 25 _ HKR.out (.agg #[.int .i64 5, .bool false, .int .i64 0, .string ⟨#[]⟩, .slice ln0 A.length lcap, .slice kn A.length kcap]) rfl (by kernel_rfl) rfl rfl ?_)
        intro w7 hw7
        have HW7 := Lib.hid hw7
        have HB7 := Lib.hid (HBR.out.trans (hw7.below (by omega)))
        have HV7 : Hid (VAtB (fun b => B b ∨ W.heap.size ≤ b) w7 (.agg #[.int .i64 5, .bool false, .int .i64 0, .string ⟨#[]⟩, .slice ln0 A.length lcap, .slice kn A.length kcap]) (mapT (insN nmR x l))) := by
          rw [← HEQ.out]
          obtain ⟨h1, h2⟩ := HV.out
          refine ⟨_, rfl, vcellB_mk.2 ⟨_, _, rfl, (h1.keep (Nat.le_of_eq hw7.size.symm) fun c hc _ => hw7.block c hc.2).mono fun b hb => hb.1, (h2.keep (Nat.le_of_eq hw7.size.symm) fun c hc _ => hw7.block c hc.2).mono fun b hb => hb.1⟩⟩
        clear hw7 HV HEQ HKR HBR d0 d1 d2 d3 d4 d5
        go_wp2_with fail
        exact bodyPost_ret (results_row1 rfl _ _ (W.heap.size + 2) 25 _ (0, 0) _ rfl HW7.out.at_ Tryz.underlying25 rfl (by kernel_rfl)) rfl (by exact ⟨_, rfl, HV7.out, HB7.out⟩)
      | false =>
        have HAI : Hid (A ++ [x] = insN nmR x l) := HIN2.out
        have HBZ := Lib.hid HB.out
        have HSTZ := Lib.hid HST.out
        clear HIN2 HB HST HBW
        go_upto_region 13 with fail
        clear g4 g5 x0 x1 x2 x3 x4 x5 x6
        generalize wr = wz at *
        obtain ⟨kn, kcap, hkv⟩ := HSTZ.out.ks.form
        obtain ⟨ln0, lcap, hlv⟩ := HSTZ.out.vs.form
        rw [List.length_map] at hkv hlv
        subst hkv hlv
        have c35 : wz.cell? ⟨W.heap.size + 3, 5, none⟩ = some (.slice kn A.length kcap) := cell_of_blk HSTZ.out.blk 5
        have x0 := (HF.out wz HBZ.out).2.2.1
        have hzz : W.heap.size + 3 < wz.heap.size := (Array.getElem?_eq_some_iff.1 HSTZ.out.blk).1
        have HBA : Hid (Below wz.heap.size wz (wz.alloc (.cells #[.string x.1] 9 (0, 0)))) := (Below.refl _ _).alloc (Nat.le_refl _) _
        have HA := Lib.hid (HSTZ.out.below HBA.out)
        as_aux_lemma =>
        go_wp2_with (at_builtin; refine wpList_own_push (E := EStr) rfl _ _ 23 rfl (W.heap.size + 3 + 1) 9 i9 _ 16 Tryz.underlying23 HI9.out hz9 hn9 hy9 rfl _ (.slice kn A.length kcap) rfl HA.out.ks x.1 [.string x.1] rfl wz.heap.size (0, 0) (hp_new rfl) rfl (by rw [List.length_map]; have := HZL.out; unfold maxLen; omega) (by rw [List.length_map]; have := HZL.out; omega) (by simp; omega) ?_)
        intro v6 w6 hown hgrow hpu
        obtain ⟨g6, p6, hv6⟩ := hpu.form
        try rw [List.length_map] at hv6
        subst hv6
        have hzA : W.heap.size + 3 < (wz.alloc (.cells #[.string x.1] 9 (0, 0))).heap.size := Nat.lt_of_lt_of_le hzz HBA.out.size
        have hK6 := (hgrow.block _ hzA (fun e => by have := (HA.out.ks.low _ e.symm).1; omega)).trans HA.out.blk
        have HB6 : Hid (Below (W.heap.size + 3) W4 w6) := (HBZ.out.trans (HBA.out.mono (by omega))).trans (below_grown hgrow (by omega) (fun q e => by have := (HA.out.ks.low q e).1; omega))
        have c65 : w6.cell? ⟨W.heap.size + 3, 5, none⟩ = some (.slice kn A.length kcap) := cell_of_blk hK6 5
        have f65 : w6.frozen? ⟨W.heap.size + 3, 5, none⟩ = false := free_of_blk hK6 5
        have hwr5 := wrote_setCell hK6 5 (.slice (some ⟨g6, 0, none⟩) (A.length + 1) p6)
        obtain ⟨w5, hw5⟩ : ∃ w5, w6.setCell ⟨W.heap.size + 3, 5, none⟩ (.slice (some ⟨g6, 0, none⟩) (A.length + 1) p6) = w5 := ⟨_, rfl⟩
        rw [hw5] at hwr5
        have HST5 := Lib.hid (HA.out.key (n := A.length) hown hgrow (by rw [show (wz.alloc (.cells #[.string x.1] 9 (0, 0))).heap.size = wz.heap.size + 1 by simp]; exact hpu) hwr5)
        have HB5 := Lib.hid (HB6.out.trans (hwr5.below (Nat.le_refl _)))
        obtain ⟨_, _, _, x1, x2, x3, x4, x5, x6⟩ := HF.out w5 HB5.out
        have c54 : w5.cell? ⟨W.heap.size + 3, 4, none⟩ = some (.slice ln0 A.length lcap) := cell_of_blk HST5.out.blk 4
        clear hown hgrow hpu hzA hK6 HB6 hwr5 HA HBA c35 x0 HSTZ HBZ
        have HBX : Hid (Below w5.heap.size w5 (w5.alloc (.cells #[.int .i64 xk, .bool xb, .int .i64 xn, .string xs, .slice xlo xln xlc, .slice xko xkn xkc] 25 (0, 0)))) := (Below.refl _ _).alloc (Nat.le_refl _) _
        have hzw5 : W.heap.size + 3 < w5.heap.size := (Array.getElem?_eq_some_iff.1 HST5.out.blk).1
        have HB5X : Hid (Below (W.heap.size + 3) W4 (w5.alloc (.cells #[.int .i64 xk, .bool xb, .int .i64 xn, .string xs, .slice xlo xln xlc, .slice xko xkn xkc] 25 (0, 0)))) := HB5.out.trans (HBX.out.mono (by omega))
        have HA5 := Lib.hid (HST5.out.below HBX.out)
        have HVX : Hid (EVal.R (fun b => C b ∧ (Value.slice ln0 A.length lcap).ownBlock ≠ some b) (w5.alloc (.cells #[.int .i64 xk, .bool xb, .int .i64 xn, .string xs, .slice xlo xln xlc, .slice xko xkn xkc] 25 (0, 0))) x.2 [.int .i64 xk, .bool xb, .int .i64 xn, .string xs, .slice xlo xln xlc, .slice xko xkn xkc]) := by
          obtain ⟨cs, h1, h2⟩ := VAtB.below ⟨_, rfl, HCW.out _ _ HX.out⟩ (HB4.out.trans (HB5X.out.mono (by omega)))
          have h3 : cs = _ := (List.toArray_inj (Value.agg.inj h1)).symm
          subst h3
          exact VCellB.mono (fun q hq => ⟨hq, fun e => by have := (HA5.out.vs.low q e).1; have := HCL.out q hq; omega⟩) _ _ h2
        go_wp2_with (first | (refine wpList_build1 rfl 22 25 (.tmp 75) rfl #[.int .i64 xk, .bool xb, .int .i64 xn, .string xs, .slice xlo xln xlc, .slice xko xkn xkc] iV _ Tryz.underlying22 HI.out hzV 6 hnV (by decide) (by decide) rfl rfl ?_) | (at_builtin; refine wpList_own_push (E := EVal) rfl _ _ 22 rfl (W.heap.size + 3 + 1) 25 iV _ 88 Tryz.underlying22 HI.out hzV hnV hyV rfl _ (.slice ln0 A.length lcap) rfl HA5.out.vs x.2 [.int .i64 xk, .bool xb, .int .i64 xn, .string xs, .slice xlo xln xlc, .slice xko xkn xkc] HVX.out w5.heap.size (0, 0) (hp_new rfl) rfl (by rw [List.length_map]; have := HZL.out; unfold maxLen; omega) (by rw [List.length_map]; have := HZL.out; omega) (by simp; omega) ?_))
        intro u8 v8 hown hgrow hpu
        obtain ⟨g9, p9, hv8⟩ := hpu.form
        try rw [List.length_map] at hv8
        subst hv8
        have hzA : W.heap.size + 3 < (w5.alloc (.cells #[.int .i64 xk, .bool xb, .int .i64 xn, .string xs, .slice xlo xln xlc, .slice xko xkn xkc] 25 (0, 0))).heap.size := Nat.lt_of_lt_of_le hzw5 HBX.out.size
        have hK8 := (hgrow.block _ hzA (fun e => by have := (HA5.out.vs.low _ e.symm).1; omega)).trans HA5.out.blk
        have HB8 : Hid (Below (W.heap.size + 3) W4 v8) := HB5X.out.trans (below_grown hgrow (by omega) (fun q e => by have := (HA5.out.vs.low q e).1; omega))
        have c84 : v8.cell? ⟨W.heap.size + 3, 4, none⟩ = some (.slice ln0 A.length lcap) := cell_of_blk hK8 4
        have f84 : v8.frozen? ⟨W.heap.size + 3, 4, none⟩ = false := free_of_blk hK8 4
        have hwr4 := wrote_setCell hK8 4 (.slice (some ⟨g9, 0, none⟩) (A.length + 1) p9)
        obtain ⟨w9, hw9⟩ : ∃ w9, v8.setCell ⟨W.heap.size + 3, 4, none⟩ (.slice (some ⟨g9, 0, none⟩) (A.length + 1) p9) = w9 := ⟨_, rfl⟩
        rw [hw9] at hwr4
        have HSTQ := Lib.hid (HA5.out.val (n := A.length) hown hgrow (by rw [show (w5.alloc (.cells #[.int .i64 xk, .bool xb, .int .i64 xn, .string xs, .slice xlo xln xlc, .slice xko xkn xkc] 25 (0, 0))).heap.size = w5.heap.size + 1 by simp]; exact hpu) hwr4)
        have HBQ := Lib.hid (HB8.out.trans (hwr4.below (Nat.le_refl _)))
        clear hown hgrow hpu hzA hK8 HB8 hwr4 HA5 HBX HB5X HVX HST5 HB5 hw5 x1 x2 x3 x4 x5 x6 c54
        go_upto_region 15 with fail
        clear hw9 c84 f84
        obtain ⟨kv, lv, hst2⟩ : ∃ kv lv, TwSt (W.heap.size + 3) C ((A ++ [x]).map (·.1)) ((A ++ [x]).map (·.2)) kv lv w9 := ⟨_, _, by rw [List.map_append, List.map_append]; exact HSTQ.out⟩
        have HST := Lib.hid hst2
        clear hst2
        have HB := Lib.hid HBQ.out
        clear HSTQ HBQ HZL
        generalize w9 = wr at *
        generalize A ++ [x] = A at *
        obtain ⟨kn, kcap, hkv⟩ := HST.out.ks.form
        obtain ⟨ln0, lcap, hlv⟩ := HST.out.vs.form
        rw [List.length_map] at hkv hlv
        subst hkv hlv
        have hD := HST.out.blk
        have d0 : wr.cell? ⟨W.heap.size + 3, 0, none⟩ = some (.int .i64 5) := cell_of_blk hD 0
        have d1 : wr.cell? ⟨W.heap.size + 3, 1, none⟩ = some (.bool false) := cell_of_blk hD 1
        have d2 : wr.cell? ⟨W.heap.size + 3, 2, none⟩ = some (.int .i64 0) := cell_of_blk hD 2
        have d3 : wr.cell? ⟨W.heap.size + 3, 3, none⟩ = some (.string ⟨#[]⟩) := cell_of_blk hD 3
        have d4 : wr.cell? ⟨W.heap.size + 3, 4, none⟩ = some (.slice ln0 A.length lcap) := cell_of_blk hD 4
        have d5 : wr.cell? ⟨W.heap.size + 3, 5, none⟩ = some (.slice kn A.length kcap) := cell_of_blk hD 5
        have HKR := Lib.hid ((HB.out.block (W.heap.size + 2) (by omega)).trans HK2.out)
        have HV : Hid (EStr.Row (fun b => (B b ∨ W.heap.size ≤ b) ∧ b ≠ W.heap.size + 2) wr (A.map (·.1)) (.slice kn A.length kcap) ∧ EVal.Row (fun b => (B b ∨ W.heap.size ≤ b) ∧ b ≠ W.heap.size + 2) wr (A.map (·.2)) (.slice ln0 A.length lcap)) := ⟨HST.out.ks.row (fun _ h => h.elim) (fun b hb => ⟨.inr (by omega), by omega⟩), HST.out.vs.row (fun b hb => ⟨.inl (HCB.out b hb), by have := HCL.out b hb; omega⟩) (fun b hb => ⟨.inr (by omega), by omega⟩)⟩
        have HBR : Hid (Below W.heap.size W wr) := HB4.out.trans (HB.out.mono (by omega))
        have HEQ := Lib.hid HAI.out
        clear hD HST HB HAI HB4 HF HX HSZ HS HL HK0 HK1 HK2
        as_aux_lemma =>
        go_wp2_with (refine wpList_store_row rfl 25 _ _ rfl (W.heap.size + 2) rfl 25 _ HKR.out (.agg #[.int .i64 5, .bool false, .int .i64 0, .string ⟨#[]⟩, .slice ln0 A.length lcap, .slice kn A.length kcap]) rfl (by kernel_rfl) rfl rfl ?_)
        intro w7 hw7
        have HW7 := Lib.hid hw7
        have HB7 := Lib.hid (HBR.out.trans (hw7.below (by omega)))
        have HV7 : Hid (VAtB (fun b => B b ∨ W.heap.size ≤ b) w7 (.agg #[.int .i64 5, .bool false, .int .i64 0, .string ⟨#[]⟩, .slice ln0 A.length lcap, .slice kn A.length kcap]) (mapT (insN nmR x l))) := by
          rw [← HEQ.out]
          obtain ⟨h1, h2⟩ := HV.out
          refine ⟨_, rfl, vcellB_mk.2 ⟨_, _, rfl, (h1.keep (Nat.le_of_eq hw7.size.symm) fun c hc _ => hw7.block c hc.2).mono fun b hb => hb.1, (h2.keep (Nat.le_of_eq hw7.size.symm) fun c hc _ => hw7.block c hc.2).mono fun b hb => hb.1⟩⟩
        clear hw7 HV HEQ HKR HBR d0 d1 d2 d3 d4 d5
        go_wp2_with fail
        exact bodyPost_ret (results_row1 rfl _ _ (W.heap.size + 2) 25 _ (0, 0) _ rfl HW7.out.at_ Tryz.underlying25 rfl (by kernel_rfl)) rfl (by exact ⟨_, rfl, HV7.out, HB7.out⟩)
end Go.Proofs.YtbndgmbjfgmdnaaGreatDoor
