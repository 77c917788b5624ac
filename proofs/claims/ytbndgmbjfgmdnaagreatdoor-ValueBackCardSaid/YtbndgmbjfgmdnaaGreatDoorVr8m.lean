/- The walk over the reference's Vars. -/
import Derived.Test.YtbndgmbjfgmdnaaGreatDoorVq3
import Derived.Test.YtbndgmbjfgmdnaaGreatDoorVcm
import Derived.Test.YtbndgmbjfgmdnaaGreatDoorVa3
import Derived.Test.YtbndgmbjfgmdnaaGreatDoorVq5m
import Derived.Test.YtbndgmbjfgmdnaaGreatDoorVp5
import Derived.Deep.RegionHeld3
namespace Go.Proofs.YtbndgmbjfgmdnaaGreatDoor
open Go.RowKit Go.Deep

theorem wp_build2 {P : Program} {o : Oper} {a : Act} {w : World} {K : Act → World → Prop} {Q : Exit → Act → World → Prop} (t : TypeId) (x y : Operand) (ho : o.op = .build t #[(0, x), (1, y)])
    (vx vy : Value) (hx : a.eval x = vx) (hy : a.eval y = vy) (cells : Array Value) (hf : P.built t [(0, vx), (1, vy)] = some cells)
    (h : K (a.put o.dst (.agg cells)) w) : o.wp P a w K Q := by
  have e : (#[(0, x), (1, y)].map fun (i, x) => (i, a.eval x)).toList = [(0, a.eval x), (1, a.eval y)] := by simp
  refine wp_build t #[(0, x), (1, y)] ho ?_ ?_
  · rw [e, hx, hy, hf]; rfl
  · rw [e, hx, hy, hf]; exact h
/-- what the reference's Vars answers: the entries lie in the value's own memory -/
def RvsPost (t : VT) (w : World) (e : Ending) (w' : World) : Prop :=
  ∃ v, e = .returned (.tuple #[v, .int .i64 ((varsE t : Nat) : Int)]) ∧ EVar.Row (fun _ => True) w' (varsL t) v ∧ Below w.heap.size w w'
def RvRel (W w1 : World) (ks : List ByteArray) (L : List VT) (f : Nat) (t6 t5 : Value) (wr : World) : Prop :=
  ∃ i : Nat, t6 = .int .i64 (i : Nat) ∧ i ≤ ks.length ∧ f = ks.length - i ∧ EVar.Own 55 w1.heap.size (fun q => q < W.heap.size) wr ((ks.zip L).take i) t5 ∧ Below w1.heap.size w1 wr

set_option maxRecDepth 100000 in
set_option maxHeartbeats 3200000 in
theorem rvars_any (t : VT) (hwf : t.wf) (v : Value) (W : World) (h : VAt W v t) : Calls Tryz.prog 24 #[v] W (RvsPost t W) := by
  have VC := fun W' (hW : Below W.heap.size W W') => Lib.hid (rvalid_any v t W' (h.below hW) hwf)
  obtain ⟨v4, v5, rfl, hs, hL⟩ := h.open
  have HE : Hid (varsE t = if validF t ≠ 0 then validF t else if t.kind ≠ 5 then 9 else 0) := rfl
  have HLL : Hid (varsL t = if varsE t = 0 then t.keys.zip t.list else []) := rfl
  have HMP := Lib.hid (fun (a : validF t = 0) (b : t.kind = 5) => map_parts a b)
  have HFT := Lib.hid (fun (a : validF t = 0) => (VT.fit_parts (fit_valid a)).2.2)
  obtain ⟨ko, kc, rfl⟩ := hs.form
  obtain ⟨lo, lc, rfl⟩ := vlist_slice hL
  have FIN : Hid (∀ e w' v, e = Ending.returned (.tuple #[v, .int .i64 ((varsE t : Nat) : Int)]) → EVar.Row (fun _ => True) w' (varsL t) v → Below W.heap.size W w' → RvsPost t W e w') := fun e w' v h1 h2 h3 => ⟨v, h1, h2, h3⟩
  generalize t.kind = k at *
  generalize t.bool = b at *
  generalize t.int = n at *
  generalize t.str = s at *
  generalize t.list = L at *
  generalize t.keys = ks at *
  generalize varsL t = VL at *
  generalize varsE t = VE at *
  generalize validF t = ve at *
  obtain ⟨W1, hW1⟩ : ∃ W1, W.alloc (.cells #[.int .i64 k, .bool b, .int .i64 n, .string s, .slice lo L.length lc, .slice ko ks.length kc] 25 (0, 0)) = W1 := ⟨_, rfl⟩
  have hk0 : W1.heap[W.heap.size]? = some (.cells #[.int .i64 k, .bool b, .int .i64 n, .string s, .slice lo L.length lc, .slice ko ks.length kc] 25 (0, 0)) := by rw [← hW1]; exact hp_new rfl
  have HB : Hid (Below W.heap.size W W1) := by unfold Hid; rw [← hW1]; exact (Below.refl _ W).alloc (Nat.le_refl _) _
  have HLT : Hid (W.heap.size < W1.heap.size) := (Array.getElem?_eq_some_iff.1 hk0).1
  have HK0 := Lib.hid hk0
  have VC1 := VC W1 HB.out
  have HL := Lib.hid hL
  have HKS := Lib.hid hs
  have g0 : W1.cell? ⟨W.heap.size, 0, none⟩ = some (.int .i64 k) := cell_of_blk hk0 0
  have g1 : W1.cell? ⟨W.heap.size, 1, none⟩ = some (.bool b) := cell_of_blk hk0 1
  have g2 : W1.cell? ⟨W.heap.size, 2, none⟩ = some (.int .i64 n) := cell_of_blk hk0 2
  have g3 : W1.cell? ⟨W.heap.size, 3, none⟩ = some (.string s) := cell_of_blk hk0 3
  have g4 : W1.cell? ⟨W.heap.size, 4, none⟩ = some (.slice lo L.length lc) := cell_of_blk hk0 4
  have g5 : W1.cell? ⟨W.heap.size, 5, none⟩ = some (.slice ko ks.length kc) := cell_of_blk hk0 5
  have HKW : Hid (∀ W', Below W1.heap.size W1 W' → W'.cell? ⟨W.heap.size, 0, none⟩ = some (.int .i64 k) ∧ W'.cell? ⟨W.heap.size, 4, none⟩ = some (.slice lo L.length lc) ∧ W'.cell? ⟨W.heap.size, 5, none⟩ = some (.slice ko ks.length kc)) := fun W' hW => by
    have := (hW.block _ HLT.out).trans HK0.out
    exact ⟨cell_of_blk this 0, cell_of_blk this 4, cell_of_blk this 5⟩
  clear hk0 hs hL h hwf VC
  go_enter Tryz.func24, Tryz.ntmps24
  go_wp2_with fail
  refine VC1.out.mono ?_
  rintro e w3 ⟨rfl, hb3⟩
  have HB3 := Lib.hid (HB.out.trans (hb3.mono HB.out.size))
  obtain ⟨c0, c4, c5⟩ := HKW.out w3 hb3
  have HB13 := Lib.hid hb3
  clear hb3 VC1 g0 g1 g2 g3 g4 g5 hW1
  by_cases hv : ve = 0
  · have t1b : ((ve : Int) == 0) = true := by rw [hv]; rfl
    have t1 : ((ve : Int) != 0) = false := by rw [hv]; rfl
    by_cases hk5 : k = 5
    · obtain ⟨hlen, h1024⟩ := HMP.out hv hk5
      have HV0 : Hid (VE = 0) := by unfold Hid; rw [HE.out, if_neg (fun h => h hv), if_neg (fun h => h hk5)]
      have HVL : Hid (VL = ks.zip L) := by unfold Hid; rw [HLL.out, if_pos HV0.out]
      have HFL := Lib.hid (HFT.out hv)
      have t5 : (k == 5) = true := by rw [hk5]; rfl
      have t5b : (k != 5) = false := by rw [hk5]; rfl
      have HZL : Hid ((ks.zip L).length = ks.length) := by unfold Hid; rw [List.length_zip]; omega
      have HLEN := Lib.hid hlen
      have hks24 : ks.length ≤ 1024 := by omega
      obtain ⟨iV, hiV, hzV, hnV, hyV⟩ := Tryz.vinfoVar'
      have HI := Lib.hid hiV
      clear hiV hv hk5 HE HLL HMP HFT hlen
      as_aux_lemma =>
      go_wp2_with fail
      go_loopg [6, 5] ks.length (RvRel W w3 ks L)
      case atStart => exact ⟨0, rfl, Nat.zero_le _, rfl, .nil, Below.refl _ _⟩
      case round =>
        obtain ⟨i, rfl, hi, rfl, ho, hbel⟩ := hrel
        have HZT : Hid (((ks.zip L).take i).length = i) := by unfold Hid; rw [List.length_take, HZL.out]; omega
        have HB4 := Lib.hid (HB3.out.trans (hbel.mono HB3.out.size))
        obtain ⟨c0, c4, c5⟩ := HKW.out wr (HB13.out.trans (hbel.mono HB13.out.size))
        obtain ⟨vo, vc, rfl⟩ := ho.form
        rw [HZT.out] at ho ⊢
        have HO := Lib.hid ho
        have HBR := Lib.hid hbel
        have hws : w3.heap.size ≤ wr.heap.size := hbel.size
        clear ho hbel
        by_cases hlt : i < ks.length
        · have hlm : i < L.length := by rw [← HLEN.out]; exact hlt
          have hii : (i : Int) < (ks.length : Int) := by omega
          have hij : (i : Int) < (L.length : Int) := by omega
          obtain ⟨b1, o1, rfl, hb1, hc1⟩ := HKS.out.at_ hlt
          rw [getD_at hlt] at hc1
          obtain ⟨bl, off, ce, rfl, hbl, hce, hvc⟩ := HL.out.at hlm
          have hva := VAt.low ⟨_, rfl, hvc⟩
          obtain ⟨k1, d1, n1, s1, lo1, ln1, lc1, ko1, kn1, kc1, rfl⟩ := vcell_slices0 hvc
          have HTK : Hid ((ks.zip L).take i ++ [(ks[i], L[i])] = (ks.zip L).take (i + 1)) := by
            unfold Hid
            rw [List.take_succ_eq_append_getElem (show i < (ks.zip L).length by rw [HZL.out]; exact hlt), List.getElem_zip]
          have HE6 : Hid (∀ w' : World, Below W.heap.size W w' → w'.cell? ⟨bl, off + i * 6, none⟩ = some (.int .i64 k1) ∧ w'.cell? ⟨bl, off + i * 6 + 1, none⟩ = some (.bool d1) ∧ w'.cell? ⟨bl, off + i * 6 + 2, none⟩ = some (.int .i64 n1) ∧ w'.cell? ⟨bl, off + i * 6 + 3, none⟩ = some (.string s1) ∧ w'.cell? ⟨bl, off + i * 6 + 4, none⟩ = some (.slice lo1 ln1 lc1) ∧ w'.cell? ⟨bl, off + i * 6 + 5, none⟩ = some (.slice ko1 kn1 kc1)) := fun w' hb => by
            have e : ∀ (j : Nat) u, [Value.int .i64 k1, .bool d1, .int .i64 n1, .string s1, .slice lo1 ln1 lc1, .slice ko1 kn1 kc1][j]? = some u → w'.cell? ⟨bl, off + i * 6 + j, none⟩ = some u := fun j u hu => (hb.cell (p := ⟨bl, off + i * 6 + j, none⟩) hbl).trans (hce j u hu)
            exact ⟨e 0 _ rfl, e 1 _ rfl, e 2 _ rfl, e 3 _ rfl, e 4 _ rfl, e 5 _ rfl⟩
          have HK6 : Hid (∀ w' : World, Below W.heap.size W w' → w'.cell? ⟨b1, o1 + i, none⟩ = some (.string ks[i])) := fun w' hb => (hb.cell (p := ⟨b1, o1 + i, none⟩) hb1).trans hc1
          have HVB : Hid (∀ w' : World, Below W.heap.size W w' → VCellB (fun q => q < W.heap.size) w' L[i] [.int .i64 k1, .bool d1, .int .i64 n1, .string s1, .slice lo1 ln1 lc1, .slice ko1 kn1 kc1]) := fun w' hb => by
            obtain ⟨cs, h1, h2⟩ := VAtB.below hva hb
            have h3 : cs = _ := (List.toArray_inj (Value.agg.inj h1)).symm
            subst h3
            exact h2
          clear hce hvc HFL hc1 hva
          generalize ks[i] = nm at *
          generalize L[i] = x at *
          have HS : Hid (∀ W' : World, Below w3.heap.size w3 W' → W'.cell? ⟨W.heap.size, 5, none⟩ = some (.slice (some ⟨b1, o1, none⟩) ks.length kc) ∧ W'.cell? ⟨W.heap.size, 4, none⟩ = some (.slice (some ⟨bl, off, none⟩) L.length lc) ∧ W'.cell? ⟨b1, o1 + i, none⟩ = some (.string nm) ∧ W'.cell? ⟨bl, off + i * 6, none⟩ = some (.int .i64 k1) ∧ W'.cell? ⟨bl, off + i * 6 + 1, none⟩ = some (.bool d1) ∧ W'.cell? ⟨bl, off + i * 6 + 2, none⟩ = some (.int .i64 n1) ∧ W'.cell? ⟨bl, off + i * 6 + 3, none⟩ = some (.string s1) ∧ W'.cell? ⟨bl, off + i * 6 + 4, none⟩ = some (.slice lo1 ln1 lc1) ∧ W'.cell? ⟨bl, off + i * 6 + 5, none⟩ = some (.slice ko1 kn1 kc1)) := fun W' hb => by
            have hbW : Below W.heap.size W W' := HB3.out.trans (hb.mono HB3.out.size)
            obtain ⟨_, c4, c5⟩ := HKW.out W' (HB13.out.trans (hb.mono HB13.out.size))
            obtain ⟨e0, e1, e2, e3, e4, e5⟩ := HE6.out W' hbW
            exact ⟨c5, c4, HK6.out W' hbW, e0, e1, e2, e3, e4, e5⟩
          have HDR : Hid (Below w3.heap.size w3 wr.drew) := HBR.out.drew
          clear HE6 HK6 HKW
          as_aux_lemma =>
          go_upto_region 10 with fail
          clear c0 c4 c5
          refine wp_region_Z (S := fun W' : World => W'.cell? ⟨W.heap.size, 5, none⟩ = some (.slice (some ⟨b1, o1, none⟩) ks.length kc) ∧ W'.cell? ⟨W.heap.size, 4, none⟩ = some (.slice (some ⟨bl, off, none⟩) L.length lc) ∧ W'.cell? ⟨b1, o1 + i, none⟩ = some (.string nm) ∧ W'.cell? ⟨bl, off + i * 6, none⟩ = some (.int .i64 k1) ∧ W'.cell? ⟨bl, off + i * 6 + 1, none⟩ = some (.bool d1) ∧ W'.cell? ⟨bl, off + i * 6 + 2, none⟩ = some (.int .i64 n1) ∧ W'.cell? ⟨bl, off + i * 6 + 3, none⟩ = some (.string s1) ∧ W'.cell? ⟨bl, off + i * 6 + 4, none⟩ = some (.slice lo1 ln1 lc1) ∧ W'.cell? ⟨bl, off + i * 6 + 5, none⟩ = some (.slice ko1 kn1 kc1)) 14 (by kernel_rfl) (HS.out _ HDR.out) (fun hHeld => ?_)
          refine wpAnyZ_takeL (i := 0) (v := ?_) rfl (by kernel_rfl) (by kernel_rfl) (by kernel_rfl) (by kernel_rfl) (fun _ _ _ h => h) (Or.inl ⟨by rfl, ?_⟩) (by assumption) ?_
          rotate_left
          · (intro w hSw; (try dsimp only at hSw); go_simp; try with_reducible rfl)
          try simp only [Act.put, List.setIfInBounds_toArray, List.set_cons_zero, List.set_cons_succ]
          refine wpAnyZ_takeL (i := 1) (v := ?_) rfl (by kernel_rfl) (by kernel_rfl) (by kernel_rfl) (by kernel_rfl) (fun _ _ _ h => h) (Or.inl ⟨by rfl, ?_⟩) (by assumption) ?_
          rotate_left
          · (intro w hSw; (try dsimp only at hSw); go_simp; try with_reducible rfl)
          try simp only [Act.put, List.setIfInBounds_toArray, List.set_cons_zero, List.set_cons_succ]
          refine wpAnyZ_takeL (i := 2) (v := ?_) rfl (by kernel_rfl) (by kernel_rfl) (by kernel_rfl) (by kernel_rfl) (fun _ _ _ h => h) (Or.inl ⟨by rfl, ?_⟩) (by assumption) ?_
          rotate_left
          · (intro w hSw; (try dsimp only at hSw); go_simp; try with_reducible rfl)
          try simp only [Act.put, List.setIfInBounds_toArray, List.set_cons_zero, List.set_cons_succ]
          refine wpAnyZ_takeL (i := 3) (v := ?_) rfl (by kernel_rfl) (by kernel_rfl) (by kernel_rfl) (by kernel_rfl) (fun _ _ _ h => h) (Or.inl ⟨by rfl, ?_⟩) (by assumption) ?_
          rotate_left
          · (intro w hSw; (try dsimp only at hSw); go_simp; try with_reducible rfl)
          try simp only [Act.put, List.setIfInBounds_toArray, List.set_cons_zero, List.set_cons_succ]
          refine wpAnyZ_takeL (i := 4) (v := ?_) rfl (by kernel_rfl) (by kernel_rfl) (by kernel_rfl) (by kernel_rfl) (fun _ _ _ h => h) (Or.inl ⟨by rfl, ?_⟩) (by assumption) ?_
          rotate_left
          · (intro w hSw; (try dsimp only at hSw); go_simp; try with_reducible rfl)
          try simp only [Act.put, List.setIfInBounds_toArray, List.set_cons_zero, List.set_cons_succ]
          refine wpAnyZ_takeL (i := 5) (v := ?_) rfl (by kernel_rfl) (by kernel_rfl) (by kernel_rfl) (by kernel_rfl) (fun _ _ _ h => h) (Or.inl ⟨by rfl, ?_⟩) (by assumption) ?_
          rotate_left
          · (intro w hSw; (try dsimp only at hSw); go_simp; try with_reducible rfl)
          try simp only [Act.put, List.setIfInBounds_toArray, List.set_cons_zero, List.set_cons_succ]
          refine wpAnyZ_takeL (i := 6) (v := ?_) rfl (by kernel_rfl) (by kernel_rfl) (by kernel_rfl) (by kernel_rfl) (fun _ _ _ h => h) (Or.inl ⟨by rfl, ?_⟩) (by assumption) ?_
          rotate_left
          · (intro w hSw; (try dsimp only at hSw); go_simp; try with_reducible rfl)
          try simp only [Act.put, List.setIfInBounds_toArray, List.set_cons_zero, List.set_cons_succ]
          refine wpAnyZ_takeL (i := 7) (v := ?_) rfl (by kernel_rfl) (by kernel_rfl) (by kernel_rfl) (by kernel_rfl) (fun _ _ _ h => h) (Or.inl ⟨by rfl, ?_⟩) (by assumption) ?_
          rotate_left
          · (intro w hSw; (try dsimp only at hSw); go_simp; try with_reducible rfl)
          try simp only [Act.put, List.setIfInBounds_toArray, List.set_cons_zero, List.set_cons_succ]
          refine wpAnyZ_takeL (i := 8) (v := ?_) rfl (by kernel_rfl) (by kernel_rfl) (by kernel_rfl) (by kernel_rfl) (fun _ _ _ h => h) (Or.inl ⟨by rfl, ?_⟩) (by assumption) ?_
          rotate_left
          · (intro w hSw; (try dsimp only at hSw); go_simp; try with_reducible rfl)
          try simp only [Act.put, List.setIfInBounds_toArray, List.set_cons_zero, List.set_cons_succ]
          refine wpAnyZ_takeL (i := 9) (v := ?_) rfl (by kernel_rfl) (by kernel_rfl) (by kernel_rfl) (by kernel_rfl) (fun _ _ _ h => h) (Or.inl ⟨by rfl, ?_⟩) (by assumption) ?_
          rotate_left
          · (intro w hSw; (try dsimp only at hSw); go_simp; try with_reducible rfl)
          try simp only [Act.put, List.setIfInBounds_toArray, List.set_cons_zero, List.set_cons_succ]
          refine wpAnyZ_takeL (i := 10) (v := ?_) rfl (by kernel_rfl) (by kernel_rfl) (by kernel_rfl) (by kernel_rfl) (fun _ _ _ h => h) (Or.inl ⟨by rfl, ?_⟩) (by assumption) ?_
          rotate_left
          · (intro w hSw; (try dsimp only at hSw); go_simp; try with_reducible rfl)
          try simp only [Act.put, List.setIfInBounds_toArray, List.set_cons_zero, List.set_cons_succ]
          obtain ⟨wd, hwd⟩ : ∃ wd, wr.drew = wd := ⟨_, rfl⟩
          rw [hwd] at HDR ⊢
          refine wpAnyZ_oneL (i := 11) (by kernel_rfl) rfl (fun K hK => ?_)
          rw [if_pos (by rfl)]
          refine wp_build2 55 (.tmp 27) (.tmp 32) rfl _ _ rfl rfl #[.string nm, .int .i64 k1, .bool d1, .int .i64 n1, .string s1, .slice lo1 ln1 lc1, .slice ko1 kn1 kc1] (Tryz.built_var _ _ _ _ _ _ _) ?_
          refine hK.out _ _ (fun _ => HS.out _ HDR.out) (fun hHeld => ?_)
          replace hHeld := hHeld (by decide)
          clear hK K
          try simp only [Act.put, List.setIfInBounds_toArray, List.set_cons_zero, List.set_cons_succ]
          refine wpAnyZ_oneL (i := 12) (by kernel_rfl) rfl (fun K hK => ?_)
          rw [if_pos (by rfl)]
          refine wp_build1 35 55 (.tmp 33) rfl #[.string nm, .int .i64 k1, .bool d1, .int .i64 n1, .string s1, .slice lo1 ln1 lc1, .slice ko1 kn1 kc1] iV _ Tryz.underlying35 HI.out hzV 7 hnV (by decide) (by decide) rfl rfl ?_
          obtain ⟨W7, hW7⟩ : ∃ W7, wd.alloc (.cells #[.string nm, .int .i64 k1, .bool d1, .int .i64 n1, .string s1, .slice lo1 ln1 lc1, .slice ko1 kn1 kc1] 55) = W7 := ⟨_, rfl⟩
          have hk7 : W7.heap[wd.heap.size]? = some (.cells #[.string nm, .int .i64 k1, .bool d1, .int .i64 n1, .string s1, .slice lo1 ln1 lc1, .slice ko1 kn1 kc1] 55 (0, 0)) := by rw [← hW7]; exact hp_new rfl
          have HB7 : Hid (Below w3.heap.size w3 W7) := by unfold Hid; rw [← hW7]; exact HDR.out.alloc HDR.out.size _
          have HO7 : Hid (EVar.Own 55 w3.heap.size (fun q => q < W.heap.size) W7 ((ks.zip L).take i) (.slice vo i vc)) := by unfold Hid; rw [← hW7, ← hwd]; exact (HO.out.below ((Below.refl _ _).drew)).below ((Below.refl _ _).alloc (Nat.le_refl _) _)
          rw [hW7]
          clear hW7
          refine hK.out _ _ (fun _ => HS.out _ HB7.out) (fun hHeld => ?_)
          replace hHeld := hHeld (by decide)
          clear hK K
          try simp only [Act.put, List.setIfInBounds_toArray, List.set_cons_zero, List.set_cons_succ]
          have HX7 : Hid (EVar.R (fun q => q < W.heap.size ∧ (Value.slice vo i vc).ownBlock ≠ some q) W7 (nm, x) [.string nm, .int .i64 k1, .bool d1, .int .i64 n1, .string s1, .slice lo1 ln1 lc1, .slice ko1 kn1 kc1]) := evar_mk (VCellB.mono (fun q hq => ⟨hq, fun e => by have h1 := (HO7.out.low q e).1; have h2 := HB3.out.size; omega⟩) _ _ (HVB.out W7 (HB3.out.trans (HB7.out.mono HB3.out.size))))
          have hz7 := HB7.out.size
          refine wpAnyZ_oneL (i := 13) (by kernel_rfl) rfl (fun K hK => ?_)
          rw [if_pos (by rfl)]
          refine wp_own_push (E := EVar) (.tmp 22) (.tmp 34) 35 rfl w3.heap.size 55 iV _ 104 Tryz.underlying35 HI.out hzV hnV hyV rfl _ (.slice vo i vc) rfl HO7.out (nm, x) [.string nm, .int .i64 k1, .bool d1, .int .i64 n1, .string s1, .slice lo1 ln1 lc1, .slice ko1 kn1 kc1] HX7.out wd.heap.size (0, 0) hk7 rfl (by rw [HZT.out]; unfold maxLen; omega) (by rw [HZT.out]; omega) (by omega) ?_
          intro v8 w8 hown hgrow hpu
          obtain ⟨g8, p8, hv8⟩ := hpu.form
          rw [HZT.out] at hv8
          subst hv8
          rw [HTK.out] at hown
          have HB8 : Hid (Below w3.heap.size w3 w8) := HB7.out.trans (below_grown hgrow (by omega) (fun q e => (HO7.out.low q e).1))
          have HOW := Lib.hid hown
          clear hown hgrow hpu HX7 HO7 HO hk7
          refine hK.out _ _ (fun _ => HS.out _ HB8.out) (fun hHeld => ?_)
          replace hHeld := hHeld (by decide)
          clear hK K
          try simp only [Act.put, List.setIfInBounds_toArray, List.set_cons_zero, List.set_cons_succ]
          refine wpAnyZ_oneL (i := 14) (by kernel_rfl) rfl (fun K hK => ?_)
          go_simp
          refine hK.out _ _ (fun h => absurd h (by decide)) (fun _ => ?_)
          clear hK K
          try simp only [Act.put, List.setIfInBounds_toArray, List.set_cons_zero, List.set_cons_succ]
          refine wpAnyZ_done (by kernel_rfl) ?_ _
          clear hHeld
          go_wp2_with fail
          go_roundg (ks.length - (i + 1))
          case measure => omega
          case rel => exact ⟨i + 1, by go_num, by omega, rfl, HOW.out, HB8.out⟩
        · have hii : ¬ (i : Int) < (ks.length : Int) := by omega
          have he : i = ks.length := by omega
          have HRW : Hid (EVar.Row (fun _ => True) wr VL (.slice vo i vc)) := by
            have hz2 : (ks.zip L).take i = ks.zip L := by rw [he, ← HZL.out, List.take_length]
            have := HO.out.row (B' := fun _ => True) (fun _ _ => trivial) (fun _ _ => trivial)
            rw [hz2, ← HVL.out] at this
            exact this
          clear HO he
          go_wp2_with fail
          go_ret2
          exact FIN.out _ _ _ (by rw [HV0.out] <;> rfl) HRW.out HB4.out
    · have HV9 : Hid (VE = 9) := by unfold Hid; rw [HE.out, if_neg (fun h => h hv), if_pos hk5]
      have HVL : Hid (VL = []) := by unfold Hid; rw [HLL.out, if_neg (by rw [HV9.out]; decide)]
      have t5 : (k == 5) = false := by rw [beq_eq_false_iff_ne]; exact hk5
      have t5b : (k != 5) = true := by simp [bne, t5]
      clear hv hk5 HE HLL HMP HFT
      as_aux_lemma =>
      go_wp2_with fail
      go_ret2
      exact FIN.out _ _ _ (by rw [HV9.out] <;> rfl) (by rw [HVL.out]; exact .nil) HB3.out
  · have t1b : ((ve : Int) == 0) = false := by rw [beq_eq_false_iff_ne]; omega
    have t1 : ((ve : Int) != 0) = true := by simp [bne, t1b]
    have HVE : Hid (VE = ve) := by unfold Hid; rw [HE.out, if_pos hv]
    have HVL : Hid (VL = []) := by unfold Hid; rw [HLL.out, if_neg (by rw [HVE.out]; exact hv)]
    clear hv HE HLL HMP HFT
    as_aux_lemma =>
    go_wp2_with fail
    go_ret2
    exact FIN.out _ _ _ (by rw [HVE.out] <;> rfl) (by rw [HVL.out]; exact .nil) HB3.out
end Go.Proofs.YtbndgmbjfgmdnaaGreatDoor
/- The walk over the reference's SameVars at two rows that hold the same. -/
namespace Go.Proofs.YtbndgmbjfgmdnaaGreatDoor
open Go.RowKit Go.Deep

def SvRel (w : World) (n : Nat) (f : Nat) (t5 : Value) (wr : World) : Prop := ∃ i : Nat, t5 = .int .i64 (i : Nat) ∧ i ≤ n ∧ f = n - i ∧ Below w.heap.size w wr
set_option maxRecDepth 100000 in
set_option maxHeartbeats 6400000 in
theorem samevars_eq (L : List VR) (u v : Value) (B C : Nat → Prop) (hl : L.length ≤ 9223372036854775807) (hwf : ∀ x ∈ L, x.2.wf) (w : World) (hu : EVar.Row B w L u) (hv : EVar.Row C w L v) :
    Calls Tryz.prog 29 #[u, v] w fun e w' => e = .returned (.bool true) ∧ Below w.heap.size w w' := by
  obtain ⟨uo, uc, rfl⟩ := hu.form
  obtain ⟨vo, vc, rfl⟩ := hv.form
  have HU := Lib.hid hu
  have HV := Lib.hid hv
  have HWF := Lib.hid hwf
  clear hu hv hwf
  go_enter Tryz.func29, Tryz.ntmps29
  go_wp2_with fail
  go_loopg [5] L.length (SvRel w L.length)
  case atStart => exact ⟨0, rfl, Nat.zero_le _, rfl, Below.refl _ _⟩
  case round =>
    obtain ⟨i, rfl, hi, rfl, hb⟩ := hrel
    have HB := Lib.hid hb
    clear hb
    by_cases hlt : i < L.length
    · have hii : (i : Int) < (L.length : Int) := by omega
      obtain ⟨bl, ol, cl, rfl, _, hbl, hcl0, hRl⟩ := HU.out.at hlt
      obtain ⟨br, or, cr, rfl, _, hbr, hcr0, hRr⟩ := HV.out.at hlt
      have hwf := HWF.out _ (List.getElem_mem hlt)
      obtain ⟨a1, c1, a2, c2, rfl, hva⟩ := evar_seven hRl
      obtain ⟨a3, c3, a4, c4, rfl, hvb⟩ := evar_seven hRr
      have HF : Hid (∀ W' : World, Below w.heap.size w W' → W'.cell? ⟨bl, ol + i * 7, none⟩ = some (.string L[i].1) ∧ W'.cell? ⟨bl, ol + i * 7 + 1, none⟩ = some (.int .i64 L[i].2.kind) ∧ W'.cell? ⟨bl, ol + i * 7 + 2, none⟩ = some (.bool L[i].2.bool) ∧ W'.cell? ⟨bl, ol + i * 7 + 3, none⟩ = some (.int .i64 L[i].2.int) ∧ W'.cell? ⟨bl, ol + i * 7 + 4, none⟩ = some (.string L[i].2.str) ∧ W'.cell? ⟨bl, ol + i * 7 + 5, none⟩ = some (.slice a1 L[i].2.list.length c1) ∧ W'.cell? ⟨bl, ol + i * 7 + 6, none⟩ = some (.slice a2 L[i].2.keys.length c2) ∧ W'.cell? ⟨br, or + i * 7, none⟩ = some (.string L[i].1) ∧ W'.cell? ⟨br, or + i * 7 + 1, none⟩ = some (.int .i64 L[i].2.kind) ∧ W'.cell? ⟨br, or + i * 7 + 2, none⟩ = some (.bool L[i].2.bool) ∧ W'.cell? ⟨br, or + i * 7 + 3, none⟩ = some (.int .i64 L[i].2.int) ∧ W'.cell? ⟨br, or + i * 7 + 4, none⟩ = some (.string L[i].2.str) ∧ W'.cell? ⟨br, or + i * 7 + 5, none⟩ = some (.slice a3 L[i].2.list.length c3) ∧ W'.cell? ⟨br, or + i * 7 + 6, none⟩ = some (.slice a4 L[i].2.keys.length c4) ∧ Below w.heap.size w W') := fun W' hb => by
        have e : ∀ (j : Nat) u, [Value.string L[i].1, .int .i64 L[i].2.kind, .bool L[i].2.bool, .int .i64 L[i].2.int, .string L[i].2.str, .slice a1 L[i].2.list.length c1, .slice a2 L[i].2.keys.length c2][j]? = some u → W'.cell? ⟨bl, ol + i * 7 + j, none⟩ = some u := fun j u hu => (hb.cell (p := ⟨bl, ol + i * 7 + j, none⟩) hbl).trans (hcl0 j u hu)
        have g : ∀ (j : Nat) u, [Value.string L[i].1, .int .i64 L[i].2.kind, .bool L[i].2.bool, .int .i64 L[i].2.int, .string L[i].2.str, .slice a3 L[i].2.list.length c3, .slice a4 L[i].2.keys.length c4][j]? = some u → W'.cell? ⟨br, or + i * 7 + j, none⟩ = some u := fun j u hu => (hb.cell (p := ⟨br, or + i * 7 + j, none⟩) hbr).trans (hcr0 j u hu)
        exact ⟨e 0 _ rfl, e 1 _ rfl, e 2 _ rfl, e 3 _ rfl, e 4 _ rfl, e 5 _ rfl, e 6 _ rfl, g 0 _ rfl, g 1 _ rfl, g 2 _ rfl, g 3 _ rfl, g 4 _ rfl, g 5 _ rfl, g 6 _ rfl, hb⟩
      have SM := fun W' (hW : Below w.heap.size w W') => Lib.hid (same_any L[i].2 L[i].2 hwf hwf _ _ W' (hva.at_.below hW) (hvb.at_.below hW))
      rw [(sameV_iff L[i].2 L[i].2).2 rfl] at SM
      clear hcl0 hcr0 hRl hRr hva hvb hwf
      generalize L[i].1 = nm at *
      generalize L[i].2.kind = k at *
      generalize L[i].2.bool = b at *
      generalize L[i].2.int = n at *
      generalize L[i].2.str = s at *
      generalize L[i].2.list.length = ll at *
      generalize L[i].2.keys.length = kl at *
      have SMS : Hid (∀ W' : World, W'.cell? ⟨bl, ol + i * 7, none⟩ = some (.string nm) ∧ W'.cell? ⟨bl, ol + i * 7 + 1, none⟩ = some (.int .i64 k) ∧ W'.cell? ⟨bl, ol + i * 7 + 2, none⟩ = some (.bool b) ∧ W'.cell? ⟨bl, ol + i * 7 + 3, none⟩ = some (.int .i64 n) ∧ W'.cell? ⟨bl, ol + i * 7 + 4, none⟩ = some (.string s) ∧ W'.cell? ⟨bl, ol + i * 7 + 5, none⟩ = some (.slice a1 ll c1) ∧ W'.cell? ⟨bl, ol + i * 7 + 6, none⟩ = some (.slice a2 kl c2) ∧ W'.cell? ⟨br, or + i * 7, none⟩ = some (.string nm) ∧ W'.cell? ⟨br, or + i * 7 + 1, none⟩ = some (.int .i64 k) ∧ W'.cell? ⟨br, or + i * 7 + 2, none⟩ = some (.bool b) ∧ W'.cell? ⟨br, or + i * 7 + 3, none⟩ = some (.int .i64 n) ∧ W'.cell? ⟨br, or + i * 7 + 4, none⟩ = some (.string s) ∧ W'.cell? ⟨br, or + i * 7 + 5, none⟩ = some (.slice a3 ll c3) ∧ W'.cell? ⟨br, or + i * 7 + 6, none⟩ = some (.slice a4 kl c4) ∧ Below w.heap.size w W' → Calls Tryz.prog 20 #[.agg #[.int .i64 k, .bool b, .int .i64 n, .string s, .slice a1 ll c1, .slice a2 kl c2], .agg #[.int .i64 k, .bool b, .int .i64 n, .string s, .slice a3 ll c3, .slice a4 kl c4]] W' fun e w' => e = .returned (.bool true) ∧ w'.cell? ⟨bl, ol + i * 7, none⟩ = some (.string nm) ∧ w'.cell? ⟨bl, ol + i * 7 + 1, none⟩ = some (.int .i64 k) ∧ w'.cell? ⟨bl, ol + i * 7 + 2, none⟩ = some (.bool b) ∧ w'.cell? ⟨bl, ol + i * 7 + 3, none⟩ = some (.int .i64 n) ∧ w'.cell? ⟨bl, ol + i * 7 + 4, none⟩ = some (.string s) ∧ w'.cell? ⟨bl, ol + i * 7 + 5, none⟩ = some (.slice a1 ll c1) ∧ w'.cell? ⟨bl, ol + i * 7 + 6, none⟩ = some (.slice a2 kl c2) ∧ w'.cell? ⟨br, or + i * 7, none⟩ = some (.string nm) ∧ w'.cell? ⟨br, or + i * 7 + 1, none⟩ = some (.int .i64 k) ∧ w'.cell? ⟨br, or + i * 7 + 2, none⟩ = some (.bool b) ∧ w'.cell? ⟨br, or + i * 7 + 3, none⟩ = some (.int .i64 n) ∧ w'.cell? ⟨br, or + i * 7 + 4, none⟩ = some (.string s) ∧ w'.cell? ⟨br, or + i * 7 + 5, none⟩ = some (.slice a3 ll c3) ∧ w'.cell? ⟨br, or + i * 7 + 6, none⟩ = some (.slice a4 kl c4) ∧ Below w.heap.size w w') := fun W' hS => (SM W' (hS.2.2.2.2.2.2.2.2.2.2.2.2.2.2)).out.mono (by
        rintro e w' ⟨rfl, hb⟩
        exact ⟨rfl, HF.out w' ((hS.2.2.2.2.2.2.2.2.2.2.2.2.2.2).trans (hb.mono (hS.2.2.2.2.2.2.2.2.2.2.2.2.2.2).size))⟩)
      have tn : (nm.toList == nm.toList) = true := beq_self_eq_true _
      have tm : (nm.toList != nm.toList) = false := by simp
      have HS0 := Lib.hid (HF.out _ HB.out.drew)
      clear SM
      as_aux_lemma =>
      go_upto_region 6 with fail
      go_region_held3 (fun W' : World => W'.cell? ⟨bl, ol + i * 7, none⟩ = some (.string nm) ∧ W'.cell? ⟨bl, ol + i * 7 + 1, none⟩ = some (.int .i64 k) ∧ W'.cell? ⟨bl, ol + i * 7 + 2, none⟩ = some (.bool b) ∧ W'.cell? ⟨bl, ol + i * 7 + 3, none⟩ = some (.int .i64 n) ∧ W'.cell? ⟨bl, ol + i * 7 + 4, none⟩ = some (.string s) ∧ W'.cell? ⟨bl, ol + i * 7 + 5, none⟩ = some (.slice a1 ll c1) ∧ W'.cell? ⟨bl, ol + i * 7 + 6, none⟩ = some (.slice a2 kl c2) ∧ W'.cell? ⟨br, or + i * 7, none⟩ = some (.string nm) ∧ W'.cell? ⟨br, or + i * 7 + 1, none⟩ = some (.int .i64 k) ∧ W'.cell? ⟨br, or + i * 7 + 2, none⟩ = some (.bool b) ∧ W'.cell? ⟨br, or + i * 7 + 3, none⟩ = some (.int .i64 n) ∧ W'.cell? ⟨br, or + i * 7 + 4, none⟩ = some (.string s) ∧ W'.cell? ⟨br, or + i * 7 + 5, none⟩ = some (.slice a3 ll c3) ∧ W'.cell? ⟨br, or + i * 7 + 6, none⟩ = some (.slice a4 kl c4) ∧ Below w.heap.size w W') (first | exact HS0.out | assumption | go_keep)
        (first
          | (go_at_call 20; refine (SMS.out _ (by assumption)).mono ?_; rintro e wA0 ⟨rfl, hSA0⟩))
      have HBE : Hid (Below w.heap.size w wA0) := hSA0.2.2.2.2.2.2.2.2.2.2.2.2.2.2
      clear hSA0 HS0
      go_wp2_with fail
      go_roundg (L.length - (i + 1))
      case measure => omega
      case rel => exact ⟨i + 1, by go_num, by omega, rfl, HBE.out⟩
    · have hii : ¬ (i : Int) < (L.length : Int) := by omega
      as_aux_lemma =>
      go_wp2_with fail
      go_ret
      exact ⟨rfl, HB.out⟩
end Go.Proofs.YtbndgmbjfgmdnaaGreatDoor
