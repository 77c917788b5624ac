/- The walk over matrix.Suffix. -/
import Derived.Test.YtomecnncighkgaaGreatDoorMx7m
import Derived.Test.YtomecnncighkgaaGreatDoorMw7
import Derived.Test.YtomecnncighkgaaGreatDoorVq15
namespace Go.Proofs.YtomecnncighkgaaGreatDoor
open Go.RowKit Go.Deep

/-- strings.Join with a comma -/
theorem joinc_any (v : Value) (T : List (List UInt8)) (w : World) (hs : StrsAt w v (T.map bx)) (hl : (joinC T).length ≤ 140737488355328) (hn : T.length ≤ 140737488355328) : Calls Tryz.prog 48 #[v, .string ⟨#[44]⟩] w fun e w' => e = .returned (.string (bx (joinC T))) ∧ Below w.heap.size w w' := by
  have he : (T.map bx).map (·.data.toList) = T := by rw [List.map_map]; exact List.map_id T
  rcases hs with ⟨ao, cap, rfl, h⟩ | ⟨b, off, cap, rfl, hb, hc, hx⟩
  · have : T = [] := List.map_eq_nil_iff.1 h
    subst this
    exact (joinnil_any ao cap _ w).mono (by rintro e w' ⟨rfl, q, rfl⟩; exact ⟨rfl, below_dn w q⟩)
  · have h := Tryz.strings_Join b off cap (T.map bx) ⟨#[44]⟩ w (fun j x hj => by
      have hj2 : j < (T.map bx).length := (List.getElem?_eq_some_iff.1 hj).1
      rw [hx j hj2, List.getD, hj]
      rfl) hb (by rw [List.length_map]; exact hn) hc (by rw [he]; rw [show (⟨#[44]⟩ : ByteArray).data.toList = [44] from rfl, joinC_join]; exact hl)
    rw [he, show (⟨#[44]⟩ : ByteArray).data.toList = [44] from rfl, joinC_join] at h
    exact h
def SxRel (L : List VR) (w1 : World) (f : Nat) (t3 t8 : Value) (wr : World) : Prop :=
  ∃ i : Nat, t8 = .int .i64 (i : Nat) ∧ i ≤ L.length ∧ f = L.length - i ∧ EStr.Own 9 w1.heap.size (fun _ => False) wr (((L.take i).map varT).map bx) t3 ∧ Below w1.heap.size w1 wr

set_option maxRecDepth 100000 in
set_option maxHeartbeats 6400000 in
theorem msuffix_any (L : List VR) (v : Value) (B : Nat → Prop) (hL : SufOk L) (w : World) (hp : Pow w) (h : EVar.Row B w L v) :
    Calls Tryz.prog 17 #[v] w fun e w' => e = .returned (.string (bx (suffF L))) ∧ Below w.heap.size w w' := by
  obtain ⟨ao, cap, rfl⟩ := h.form
  have HL := Lib.hid hL
  have HP := Lib.hid hp
  have H := Lib.hid h
  have hn := hL.n
  obtain ⟨i9, hi9, hz9, hn9, hy9⟩ := Tryz.info9'
  have HI9 := Lib.hid hi9
  clear h hp hL hi9
  go_enter Tryz.func17, Tryz.ntmps17
  go_wp2_with fail
  go_loopg [3, 8] L.length (SxRel L w)
  case atStart => exact ⟨0, rfl, Nat.zero_le _, rfl, .nil, Below.refl _ _⟩
  case round =>
    obtain ⟨i, rfl, hi, rfl, ho, hbel⟩ := hrel
    have HTL : Hid ((((L.take i).map varT).map bx).length = i) := by unfold Hid; rw [List.length_map, List.length_map, List.length_take]; omega
    have HB := Lib.hid hbel
    have hws := hbel.size
    obtain ⟨vo, vc, rfl⟩ := ho.form
    rw [HTL.out] at ho ⊢
    have HO := Lib.hid ho
    clear ho hbel
    by_cases hlt : i < L.length
    · have hii : (i : Int) < (L.length : Int) := by omega
      obtain ⟨bl, off, ce, rfl, _, hbl, hce, hvc⟩ := (H.out.below HB.out).at hlt
      obtain ⟨a1, c1, a2, c2, rfl, hva⟩ := evar_seven hvc
      have e0 : wr.cell? ⟨bl, off + i * 7 + 0, none⟩ = _ := hce 0 _ rfl
      have e1 : wr.cell? ⟨bl, off + i * 7 + 1, none⟩ = _ := hce 1 _ rfl
      have e2 : wr.cell? ⟨bl, off + i * 7 + 2, none⟩ = _ := hce 2 _ rfl
      have e3 : wr.cell? ⟨bl, off + i * 7 + 3, none⟩ = _ := hce 3 _ rfl
      have e4 : wr.cell? ⟨bl, off + i * 7 + 4, none⟩ = _ := hce 4 _ rfl
      have e5 : wr.cell? ⟨bl, off + i * 7 + 5, none⟩ = _ := hce 5 _ rfl
      have e6 : wr.cell? ⟨bl, off + i * 7 + 6, none⟩ = _ := hce 6 _ rfl
      rw [Nat.add_zero] at e0
      have hmem := List.getElem_mem hlt
      have hwx := HL.out.wf _ hmem
      have hlx := HL.out.lit _ hmem
      have hnx := HL.out.nm _ hmem
      have hvl := varT_len HL.out _ hmem
      have HTK : Hid (((L.take i).map varT).map bx ++ [bx (varT L[i])] = ((L.take (i + 1)).map varT).map bx) := by unfold Hid; rw [List.take_succ_eq_append_getElem hlt, List.map_append, List.map_append]; rfl
      have hsx := show_len hlx
      clear hce hvc hmem
      generalize L[i] = x at *
      obtain ⟨W1, hW1⟩ : ∃ W1, wr.alloc (.cells #[.string x.1, .int .i64 x.2.kind, .bool x.2.bool, .int .i64 x.2.int, .string x.2.str, .slice a1 x.2.list.length c1, .slice a2 x.2.keys.length c2] 48 (0, 0)) = W1 := ⟨_, rfl⟩
      have hk1 : W1.heap[wr.heap.size]? = some (.cells #[.string x.1, .int .i64 x.2.kind, .bool x.2.bool, .int .i64 x.2.int, .string x.2.str, .slice a1 x.2.list.length c1, .slice a2 x.2.keys.length c2] 48 (0, 0)) := by rw [← hW1]; exact hp_new rfl
      have hb1 : Below wr.heap.size wr W1 := by rw [← hW1]; exact (Below.refl _ wr).alloc (Nat.le_refl _) _
      have HLT : Hid (wr.heap.size < W1.heap.size) := (Array.getElem?_eq_some_iff.1 hk1).1
      have HK1 := Lib.hid hk1
      have HBX : Hid (∀ W', Below W1.heap.size W1 W' → W'.cell? ⟨wr.heap.size, 0, none⟩ = some (.string x.1) ∧ W'.cell? ⟨wr.heap.size, 1, none⟩ = some (.int .i64 x.2.kind) ∧ W'.cell? ⟨wr.heap.size, 2, none⟩ = some (.bool x.2.bool) ∧ W'.cell? ⟨wr.heap.size, 3, none⟩ = some (.int .i64 x.2.int) ∧ W'.cell? ⟨wr.heap.size, 4, none⟩ = some (.string x.2.str) ∧ W'.cell? ⟨wr.heap.size, 5, none⟩ = some (.slice a1 x.2.list.length c1) ∧ W'.cell? ⟨wr.heap.size, 6, none⟩ = some (.slice a2 x.2.keys.length c2)) := fun W' hb => by
        have q := (hb.block _ HLT.out).trans HK1.out
        exact ⟨cell_of_blk q 0, cell_of_blk q 1, cell_of_blk q 2, cell_of_blk q 3, cell_of_blk q 4, cell_of_blk q 5, cell_of_blk q 6⟩
      have HVA := Lib.hid (hva.below hb1)
      have SH : Hid (∀ W', Below W1.heap.size W1 W' → Calls Tryz.prog 47 #[.agg #[.int .i64 x.2.kind, .bool x.2.bool, .int .i64 x.2.int, .string x.2.str, .slice a1 x.2.list.length c1, .slice a2 x.2.keys.length c2]] W' fun e w' => e = .returned (.string (bx (showT x.2))) ∧ Below W'.heap.size W' w') := fun W' hb =>
        show_any x.2 hwx hlx _ W' (HP.out.below (HB.out.trans ((hb1.trans (hb.mono hb1.size)).mono HB.out.size))) (HVA.out.below hb).at_
      have HB1 := Lib.hid (HB.out.trans (hb1.mono HB.out.size))
      have HVT := Lib.hid (varT_bx x)
      have HLOW := Lib.hid HO.out.low
      have HO1 := Lib.hid (HO.out.below hb1)
      have hs1 := hb1.size
      have hl1 := HLT.out
      have h1s := bx_size (showT x.2)
      have h2s : (⟨#[61]⟩ : ByteArray).size = 1 := rfl
      clear hk1 hb1 hva hwx hlx hvl HVA HK1
      generalize x.2.kind = k at *
      generalize x.2.bool = b at *
      generalize x.2.int = n at *
      generalize x.2.str = s at *
      generalize x.2.list.length = ll at *
      generalize x.2.keys.length = kl at *
      generalize x.1 = nm at *
      generalize hsb : bx (showT x.2) = sb at *
      generalize hvb : bx (varT x) = vb at *
      clear hvb hsb
      as_aux_lemma =>
      go_upto_region 5 with fail
      clear e0 e1 e2 e3 e4 e5 e6 hW1
      have HDR : Hid (Below W1.heap.size W1 W1.drew) := (Below.refl _ W1).drew
      refine wp_region_Z (S := fun W' : World => W'.cell? ⟨wr.heap.size, 0, none⟩ = some (.string nm) ∧ W'.cell? ⟨wr.heap.size, 1, none⟩ = some (.int .i64 k) ∧ W'.cell? ⟨wr.heap.size, 2, none⟩ = some (.bool b) ∧ W'.cell? ⟨wr.heap.size, 3, none⟩ = some (.int .i64 n) ∧ W'.cell? ⟨wr.heap.size, 4, none⟩ = some (.string s) ∧ W'.cell? ⟨wr.heap.size, 5, none⟩ = some (.slice a1 ll c1) ∧ W'.cell? ⟨wr.heap.size, 6, none⟩ = some (.slice a2 kl c2)) 10 (by kernel_rfl) (HBX.out _ HDR.out) (fun hHeld => ?_)
      refine wpAnyZ_takeL (i := 0) (v := ?_) rfl (by kernel_rfl) (by kernel_rfl) (by kernel_rfl) (by kernel_rfl) (fun _ _ _ h => h) (Or.inl ⟨by rfl, ?_⟩) (by assumption) ?_
      rotate_left
      · (intro w hSw; (try dsimp only at hSw); go_simp; try with_reducible rfl)
      try simp only [Act.put, List.setIfInBounds_toArray, List.set_cons_zero, List.set_cons_succ]
      refine wpAnyZ_takeL (i := 1) (v := ?_) rfl (by kernel_rfl) (by kernel_rfl) (by kernel_rfl) (by kernel_rfl) (fun _ _ _ h => h) (Or.inl ⟨by rfl, ?_⟩) (by assumption) ?_
      rotate_left
      · (intro w hSw; (try dsimp only at hSw); go_simp; try with_reducible rfl)
      try simp only [Act.put, List.setIfInBounds_toArray, List.set_cons_zero, List.set_cons_succ]
      refine wpAnyZ_takeL (i := 2) (v := ?_) rfl (by kernel_rfl) (by kernel_rfl) (by kernel_rfl) (by kernel_rfl) (fun _ _ _ h => h) (Or.inl ⟨by rfl, ?_⟩) (by assumption) ?_
      rotate_left
      · (intro w hSw; (try dsimp only at hSw); go_simp; try with_reducible rfl)
      try simp only [Act.put, List.setIfInBounds_toArray, List.set_cons_zero, List.set_cons_succ]
      refine wpAnyZ_takeL (i := 3) (v := ?_) rfl (by kernel_rfl) (by kernel_rfl) (by kernel_rfl) (by kernel_rfl) (fun _ _ _ h => h) (Or.inl ⟨by rfl, ?_⟩) (by assumption) ?_
      rotate_left
      · (intro w hSw; (try dsimp only at hSw); go_simp; rw [if_neg (by omega)])
      try simp only [Act.put, List.setIfInBounds_toArray, List.set_cons_zero, List.set_cons_succ]
      refine wpAnyZ_takeL (i := 4) (v := ?_) rfl (by kernel_rfl) (by kernel_rfl) (by kernel_rfl) (by kernel_rfl) (fun _ _ _ h => h) (Or.inl ⟨by rfl, ?_⟩) (by assumption) ?_
      rotate_left
      · (intro w hSw; (try dsimp only at hSw); go_simp; try with_reducible rfl)
      try simp only [Act.put, List.setIfInBounds_toArray, List.set_cons_zero, List.set_cons_succ]
      refine wpAnyZ_takeL (i := 5) (v := ?_) rfl (by kernel_rfl) (by kernel_rfl) (by kernel_rfl) (by kernel_rfl) (fun _ _ _ h => h) (Or.inl ⟨by rfl, ?_⟩) (by assumption) ?_
      rotate_left
      · (intro w hSw; (try dsimp only at hSw); go_simp; try with_reducible rfl)
      try simp only [Act.put, List.setIfInBounds_toArray, List.set_cons_zero, List.set_cons_succ]
      obtain ⟨wd, hwd⟩ : ∃ wd, W1.drew = wd := ⟨_, rfl⟩
      rw [hwd] at HDR ⊢
      clear hwd
      refine wpAnyZ_oneL (i := 6) (by kernel_rfl) rfl (fun K hK => ?_)
      go_simp
      go_at_call 47
      refine (SH.out wd HDR.out).mono ?_
      rintro e w7 ⟨rfl, hb7⟩
      have HB7 := Lib.hid (HDR.out.trans (hb7.mono HDR.out.size))
      clear hb7 SH
      refine hK.out _ _ (fun _ => HBX.out _ HB7.out) (fun hHeld => ?_)
      replace hHeld := hHeld (by decide)
      clear hK K
      try simp only [Act.put, List.setIfInBounds_toArray, List.set_cons_zero, List.set_cons_succ]
      refine wpAnyZ_oneL (i := 7) (by kernel_rfl) rfl (fun K hK => ?_)
      go_simp
      rw [if_neg (by first | omega | (simp only [ByteArray.size_append]; omega))]
      refine hK.out _ _ (fun _ => HBX.out _ HB7.out) (fun hHeld => ?_)
      replace hHeld := hHeld (by decide)
      clear hK K
      try simp only [Act.put, List.setIfInBounds_toArray, List.set_cons_zero, List.set_cons_succ]
      refine wpAnyZ_oneL (i := 8) (by kernel_rfl) rfl (fun K hK => ?_)
      rw [if_pos (by rfl)]
      refine wp_build1 44 9 (.tmp 19) rfl #[.string (nm ++ ({ data := #[61] } : ByteArray) ++ sb)] i9 _ Tryz.underlying44 HI9.out hz9 1 hn9 (by decide) (by decide) rfl rfl ?_
      obtain ⟨W7, hW7⟩ : ∃ W7, w7.alloc (.cells #[.string (nm ++ ({ data := #[61] } : ByteArray) ++ sb)] 9) = W7 := ⟨_, rfl⟩
      have hk7 : W7.heap[w7.heap.size]? = some (.cells #[.string (nm ++ ({ data := #[61] } : ByteArray) ++ sb)] 9 (0, 0)) := by rw [← hW7]; exact hp_new rfl
      have HB8 : Hid (Below W1.heap.size W1 W7) := by unfold Hid; rw [← hW7]; exact HB7.out.alloc HB7.out.size _
      rw [hW7]
      clear hW7
      refine hK.out _ _ (fun _ => HBX.out _ HB8.out) (fun hHeld => ?_)
      replace hHeld := hHeld (by decide)
      clear hK K
      try simp only [Act.put, List.setIfInBounds_toArray, List.set_cons_zero, List.set_cons_succ]
      have HO7 := Lib.hid (HO1.out.below HB8.out)
      have hz8 := HB8.out.size
      have hz7 := HB7.out.size
      refine wpAnyZ_oneL (i := 9) (by kernel_rfl) rfl (fun K hK => ?_)
      rw [if_pos (by rfl)]
      refine wp_own_push (E := EStr) (.tmp 12) (.tmp 20) 44 rfl w.heap.size 9 i9 _ 16 Tryz.underlying44 HI9.out hz9 hn9 hy9 rfl _ (.slice vo i vc) rfl HO7.out (nm ++ ({ data := #[61] } : ByteArray) ++ sb) [.string (nm ++ ({ data := #[61] } : ByteArray) ++ sb)] rfl w7.heap.size (0, 0) hk7 rfl (by rw [HTL.out]; unfold maxLen; omega) (by rw [HTL.out]; omega) (by omega) ?_
      intro v8 w8 hown hgrow hpu
      obtain ⟨g8, p8, hv8⟩ := hpu.form
      rw [HTL.out] at hv8
      subst hv8
      rw [HVT.out, HTK.out] at hown
      have HS8 : Hid (w8.cell? ⟨wr.heap.size, 0, none⟩ = some (.string nm) ∧ w8.cell? ⟨wr.heap.size, 1, none⟩ = some (.int .i64 k) ∧ w8.cell? ⟨wr.heap.size, 2, none⟩ = some (.bool b) ∧ w8.cell? ⟨wr.heap.size, 3, none⟩ = some (.int .i64 n) ∧ w8.cell? ⟨wr.heap.size, 4, none⟩ = some (.string s) ∧ w8.cell? ⟨wr.heap.size, 5, none⟩ = some (.slice a1 ll c1) ∧ w8.cell? ⟨wr.heap.size, 6, none⟩ = some (.slice a2 kl c2)) := by
        have q8 := (hgrow.block wr.heap.size (by omega) (fun e => by have := (HLOW.out _ e.symm).2; omega))
        have q7 := HBX.out _ HB8.out
        have hk : ∀ (o : Nat) (u : Value), W7.cell? ⟨wr.heap.size, o, none⟩ = some u → w8.cell? ⟨wr.heap.size, o, none⟩ = some u := fun o u h => (World.cell?_of_block (a := ⟨wr.heap.size, o, none⟩) q8).trans h
        obtain ⟨s0, s1, s2, s3, s4, s5, s6⟩ := q7
        exact ⟨hk _ _ s0, hk _ _ s1, hk _ _ s2, hk _ _ s3, hk _ _ s4, hk _ _ s5, hk _ _ s6⟩
      have HB9 : Hid (Below w.heap.size w w8) := (HB1.out.trans (HB8.out.mono HB1.out.size)).trans (below_grown hgrow (by omega) (fun q e => (HO7.out.low q e).1))
      have HOW := Lib.hid hown
      clear hown hgrow hpu HO7 hk7
      refine hK.out _ _ (fun _ => HS8.out) (fun hHeld => ?_)
      replace hHeld := hHeld (by decide)
      clear hK K
      try simp only [Act.put, List.setIfInBounds_toArray, List.set_cons_zero, List.set_cons_succ]
      refine wpAnyZ_oneL (i := 10) (by kernel_rfl) rfl (fun K hK => ?_)
      go_simp
      refine hK.out _ _ (fun h => absurd h (by decide)) (fun _ => ?_)
      clear hK K
      try simp only [Act.put, List.setIfInBounds_toArray, List.set_cons_zero, List.set_cons_succ]
      refine wpAnyZ_done (by kernel_rfl) ?_ _
      clear hHeld HS8
      go_wp2_with fail
      go_roundg (L.length - (i + 1))
      case measure => omega
      case rel => exact ⟨i + 1, by go_num, by omega, rfl, HOW.out, HB9.out⟩
    · have hii : ¬ (i : Int) < (L.length : Int) := by omega
      have he : i = L.length := by omega
      have hst : StrsAt wr (.slice vo i vc) ((L.map varT).map bx) := by
        have := strs_row (HO.out.row (B' := fun _ => True) (fun _ _ => trivial) (fun _ _ => trivial))
        rwa [he, List.take_length, ← he] at this
      have JC := Lib.hid (joinc_any _ _ wr hst (by have := suff_len HL.out L.length; rw [List.take_length] at this; omega) (by rw [List.length_map]; omega))
      have HN : Hid (suffF L = joinC (L.map varT)) := rfl
      clear HO he hst
      as_aux_lemma =>
      go_wp2_with fail
      refine JC.out.mono ?_
      rintro e w5 ⟨rfl, hb5⟩
      have HB5 := Lib.hid (HB.out.trans (hb5.mono HB.out.size))
      clear JC hb5
      go_wp2_with fail
      go_ret
      exact ⟨by rw [HN.out] <;> rfl, HB5.out⟩
end Go.Proofs.YtomecnncighkgaaGreatDoor
