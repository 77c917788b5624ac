/- The walks over the reference's Suffix and Same. -/
import Derived.Test.YtomecnncighkgaaGreatDoorMx7m
import Derived.Test.YtomecnncighkgaaGreatDoorVa5
import Derived.Test.YtomecnncighkgaaGreatDoorVa3
import Derived.Test.YtomecnncighkgaaGreatDoorVr4m
import Derived.Test.YtomecnncighkgaaGreatDoorVr12
import Derived.StillTailTactics
namespace Go.Proofs.YtomecnncighkgaaGreatDoor
open Go.RowKit Go.Deep

def RsRel (L : List VR) (w1 : World) (f : Nat) (t3 t4 : Value) (wr : World) : Prop :=
  ∃ i : Nat, t4 = .int .i64 (i : Nat) ∧ i ≤ L.length ∧ f = L.length - i ∧ t3 = .string (bx (joinC ((L.take i).map varT))) ∧ Below w1.heap.size w1 wr

set_option maxRecDepth 100000 in
set_option maxHeartbeats 6400000 in
theorem rmsuffix_any (L : List VR) (v : Value) (B : Nat → Prop) (hL : SufOk L) (w : World) (h : EVar.Row B w L v) :
    Calls Tryz.prog 18 #[v] w fun e w' => e = .returned (.string (bx (suffF L))) ∧ Below w.heap.size w w' := by
  obtain ⟨ao, cap, rfl⟩ := h.form
  have HL := Lib.hid hL
  have H := Lib.hid h
  have hn := hL.n
  clear h hL
  go_enter Tryz.func18, Tryz.ntmps18
  go_wp2_with fail
  go_loopg [3, 4] L.length (RsRel L w)
  case atStart => exact ⟨0, rfl, Nat.zero_le _, rfl, rfl, Below.refl _ _⟩
  case round =>
    obtain ⟨i, rfl, hi, rfl, rfl, hbel⟩ := hrel
    have HB := Lib.hid hbel
    have hws := hbel.size
    clear hbel
    have hsl := suff_len HL.out i
    have hss := bx_size (joinC ((L.take i).map varT))
    rw [← hss] at hsl
    by_cases hlt : i < L.length
    · have hii : (i : Int) < (L.length : Int) := by omega
      obtain ⟨bl, off, ce, rfl, _, hbl, hce, hvc⟩ := (H.out.below HB.out).at hlt
      obtain ⟨a1, c1, a2, c2, rfl, hva⟩ := evar_seven hvc
      have hmem := List.getElem_mem hlt
      have hwx := HL.out.wf _ hmem
      have hlx := HL.out.lit _ hmem
      have hnx := HL.out.nm _ hmem
      have hsx := show_len hlx
      have HTK : Hid (joinC ((L.take (i + 1)).map varT) = if i = 0 then varT L[i] else joinC ((L.take i).map varT) ++ 44 :: varT L[i]) := by
        unfold Hid
        rw [List.take_succ_eq_append_getElem hlt, List.map_append]
        by_cases h0 : i = 0
        · subst h0
          rw [if_pos rfl]
          rfl
        · rw [if_neg h0, List.map_singleton, joinC_snoc]
          intro e
          have := congrArg List.length e
          rw [List.length_map, List.length_take] at this
          change min i L.length = 0 at this
          omega
      have HS : Hid (∀ W', Below wr.heap.size wr W' → W'.cell? ⟨bl, off + i * 7, none⟩ = some (.string L[i].1) ∧ W'.cell? ⟨bl, off + i * 7 + 1, none⟩ = some (.int .i64 L[i].2.kind) ∧ W'.cell? ⟨bl, off + i * 7 + 2, none⟩ = some (.bool L[i].2.bool) ∧ W'.cell? ⟨bl, off + i * 7 + 3, none⟩ = some (.int .i64 L[i].2.int) ∧ W'.cell? ⟨bl, off + i * 7 + 4, none⟩ = some (.string L[i].2.str) ∧ W'.cell? ⟨bl, off + i * 7 + 5, none⟩ = some (.slice a1 L[i].2.list.length c1) ∧ W'.cell? ⟨bl, off + i * 7 + 6, none⟩ = some (.slice a2 L[i].2.keys.length c2)) := fun W' hb => by
        have g : ∀ (j : Nat) u, [Value.string L[i].1, .int .i64 L[i].2.kind, .bool L[i].2.bool, .int .i64 L[i].2.int, .string L[i].2.str, .slice a1 L[i].2.list.length c1, .slice a2 L[i].2.keys.length c2][j]? = some u → W'.cell? ⟨bl, off + i * 7 + j, none⟩ = some u := fun j u hu => (hb.cell (p := ⟨bl, off + i * 7 + j, none⟩) hbl).trans (hce j u hu)
        exact ⟨g 0 _ rfl, g 1 _ rfl, g 2 _ rfl, g 3 _ rfl, g 4 _ rfl, g 5 _ rfl, g 6 _ rfl⟩
      have SH : Hid (∀ W', Below wr.heap.size wr W' → Calls Tryz.prog 49 #[.agg #[.int .i64 L[i].2.kind, .bool L[i].2.bool, .int .i64 L[i].2.int, .string L[i].2.str, .slice a1 L[i].2.list.length c1, .slice a2 L[i].2.keys.length c2]] W' fun e w' => e = .returned (.string (bx (showT L[i].2))) ∧ Below W'.heap.size W' w') := fun W' hb =>
        rshow_any L[i].2 hwx hlx _ W' (hva.below hb).at_
      clear hce hvc hmem hwx hlx hva
      generalize L[i] = x at *
      have h1s := bx_size (showT x.2)
      have h2s : (⟨#[61]⟩ : ByteArray).size = 1 := rfl
      have h3s : (⟨#[44]⟩ : ByteArray).size = 1 := rfl
      have HDR : Hid (Below wr.heap.size wr wr.drew) := (Below.refl _ wr).drew
      by_cases h0 : i = 0
      · have hi0 : decide ((0 : Int) < (i : Int)) = false := decide_eq_false (by omega)
        have hi0b : ¬ (0 : Int) < (i : Int) := by omega
        have HFIN : Hid (bx (joinC ((L.take i).map varT)) ++ x.1 ++ ({ data := #[61] } : ByteArray) ++ bx (showT x.2) = bx (joinC ((L.take (i + 1)).map varT))) := by
          unfold Hid
          rw [HTK.out, if_pos h0, ← varT_bx x, h0]
          show bx [] ++ bx x.1.data.toList ++ bx [61] ++ bx (showT x.2) = bx x.1.data.toList ++ bx [61] ++ bx (showT x.2)
          simp only [bx_app, List.nil_append]
        clear h0 HTK
        generalize x.2.kind = k at *
        generalize x.2.bool = b at *
        generalize x.2.int = n at *
        generalize x.2.str = s at *
        generalize x.2.list.length = ll at *
        generalize x.2.keys.length = kl at *
        generalize x.1 = nm at *
        generalize hsb : bx (showT x.2) = sb at *
        generalize hfb : bx (joinC ((L.take (i + 1)).map varT)) = fin at *
        generalize hpb : bx (joinC ((L.take i).map varT)) = sp at *
        clear hsb hpb hss
        as_aux_lemma =>
        go_upto_region 7 with fail
        refine wp_region_Z (S := fun W' : World => W'.cell? ⟨bl, off + i * 7, none⟩ = some (.string nm) ∧ W'.cell? ⟨bl, off + i * 7 + 1, none⟩ = some (.int .i64 k) ∧ W'.cell? ⟨bl, off + i * 7 + 2, none⟩ = some (.bool b) ∧ W'.cell? ⟨bl, off + i * 7 + 3, none⟩ = some (.int .i64 n) ∧ W'.cell? ⟨bl, off + i * 7 + 4, none⟩ = some (.string s) ∧ W'.cell? ⟨bl, off + i * 7 + 5, none⟩ = some (.slice a1 ll c1) ∧ W'.cell? ⟨bl, off + i * 7 + 6, none⟩ = some (.slice a2 kl c2)) 15 (by kernel_rfl) (HS.out _ HDR.out) (fun hHeld => ?_)
        refine wpAnyZ_takeL (i := 0) (v := ?_) rfl (by kernel_rfl) (by kernel_rfl) (by kernel_rfl) (by kernel_rfl) (fun _ _ _ h => h) (Or.inl ⟨by rfl, ?_⟩) (by assumption) ?_
        rotate_left
        · (intro w hSw; (try dsimp only at hSw); go_simp; try with_reducible rfl)
        try simp only [Act.put, List.setIfInBounds_toArray, List.set_cons_zero, List.set_cons_succ]
        refine wpAnyZ_takeL (i := 1) (v := ?_) rfl (by kernel_rfl) (by kernel_rfl) (by kernel_rfl) (by kernel_rfl) (fun _ _ _ h => h) (Or.inl ⟨by rfl, ?_⟩) (by assumption) ?_
        rotate_left
        · (intro w hSw; (try dsimp only at hSw); go_simp; try with_reducible rfl)
        try simp only [Act.put, List.setIfInBounds_toArray, List.set_cons_zero, List.set_cons_succ]
        refine wpAnyZ_takeL (i := 2) (v := ?_) rfl (by kernel_rfl) (by kernel_rfl) (by kernel_rfl) (by kernel_rfl) (fun _ _ _ h => h) (Or.inl ⟨by rfl, ?_⟩) (by assumption) ?_
        rotate_left
        · (intro w hSw; (try dsimp only at hSw); go_simp; try with_reducible rfl)
        try simp only [Act.put, List.setIfInBounds_toArray, List.set_cons_zero, List.set_cons_succ]
        refine wpAnyZ_takeL (i := 3) (v := ?_) rfl (by kernel_rfl) (by kernel_rfl) (by kernel_rfl) (by kernel_rfl) (fun _ _ _ h => h) (Or.inl ⟨by rfl, ?_⟩) (by assumption) ?_
        rotate_left
        · (intro w hSw; (try dsimp only at hSw); go_simp; try with_reducible rfl)
        try simp only [Act.put, List.setIfInBounds_toArray, List.set_cons_zero, List.set_cons_succ]
        refine wpAnyZ_takeL (i := 4) (v := ?_) rfl (by kernel_rfl) (by kernel_rfl) (by kernel_rfl) (by kernel_rfl) (fun _ _ _ h => h) (Or.inl ⟨by rfl, ?_⟩) (by assumption) ?_
        rotate_left
        · (intro w hSw; (try dsimp only at hSw); go_simp; try with_reducible rfl)
        try simp only [Act.put, List.setIfInBounds_toArray, List.set_cons_zero, List.set_cons_succ]
        refine wpAnyZ_takeL (i := 5) (v := ?_) rfl (by kernel_rfl) (by kernel_rfl) (by kernel_rfl) (by kernel_rfl) (fun _ _ _ h => h) (Or.inl ⟨by rfl, ?_⟩) (by assumption) ?_
        rotate_left
        · (intro w hSw; (try dsimp only at hSw); go_simp; try with_reducible rfl)
        try simp only [Act.put, List.setIfInBounds_toArray, List.set_cons_zero, List.set_cons_succ]
        refine wpAnyZ_takeL (i := 6) (v := ?_) rfl (by kernel_rfl) (by kernel_rfl) (by kernel_rfl) (by kernel_rfl) (fun _ _ _ h => h) (Or.inl ⟨by rfl, ?_⟩) (by assumption) ?_
        rotate_left
        · (intro w hSw; (try dsimp only at hSw); go_simp; rw [if_neg (by first | omega | (simp only [ByteArray.size_append]; omega))])
        try simp only [Act.put, List.setIfInBounds_toArray, List.set_cons_zero, List.set_cons_succ]
        refine wpAnyZ_takeL (i := 7) (v := ?_) rfl (by kernel_rfl) (by kernel_rfl) (by kernel_rfl) (by kernel_rfl) (fun _ _ _ h => h) (Or.inl ⟨by rfl, ?_⟩) (by assumption) ?_
        rotate_left
        · (intro w hSw; (try dsimp only at hSw); go_simp; rw [if_neg (by first | omega | (simp only [ByteArray.size_append]; omega))])
        try simp only [Act.put, List.setIfInBounds_toArray, List.set_cons_zero, List.set_cons_succ]
        refine wpAnyZ_takeL (i := 8) (v := ?_) rfl (by kernel_rfl) (by kernel_rfl) (by kernel_rfl) (by kernel_rfl) (fun _ _ _ h => h) (Or.inl ⟨by rfl, ?_⟩) (by assumption) ?_
        rotate_left
        · (intro w hSw; (try dsimp only at hSw); go_simp; try with_reducible rfl)
        try simp only [Act.put, List.setIfInBounds_toArray, List.set_cons_zero, List.set_cons_succ]
        refine wpAnyZ_takeL (i := 9) (v := ?_) rfl (by kernel_rfl) (by kernel_rfl) (by kernel_rfl) (by kernel_rfl) (fun _ _ _ h => h) (Or.inl ⟨by rfl, ?_⟩) (by assumption) ?_
        rotate_left
        · (intro w hSw; (try dsimp only at hSw); go_simp; try with_reducible rfl)
        try simp only [Act.put, List.setIfInBounds_toArray, List.set_cons_zero, List.set_cons_succ]
        refine wpAnyZ_takeL (i := 10) (v := ?_) rfl (by kernel_rfl) (by kernel_rfl) (by kernel_rfl) (by kernel_rfl) (fun _ _ _ h => h) (Or.inl ⟨by rfl, ?_⟩) (by assumption) ?_
        rotate_left
        · (intro w hSw; (try dsimp only at hSw); go_simp; try with_reducible rfl)
        try simp only [Act.put, List.setIfInBounds_toArray, List.set_cons_zero, List.set_cons_succ]
        refine wpAnyZ_takeL (i := 11) (v := ?_) rfl (by kernel_rfl) (by kernel_rfl) (by kernel_rfl) (by kernel_rfl) (fun _ _ _ h => h) (Or.inl ⟨by rfl, ?_⟩) (by assumption) ?_
        rotate_left
        · (intro w hSw; (try dsimp only at hSw); go_simp; try with_reducible rfl)
        try simp only [Act.put, List.setIfInBounds_toArray, List.set_cons_zero, List.set_cons_succ]
        refine wpAnyZ_takeL (i := 12) (v := ?_) rfl (by kernel_rfl) (by kernel_rfl) (by kernel_rfl) (by kernel_rfl) (fun _ _ _ h => h) (Or.inl ⟨by rfl, ?_⟩) (by assumption) ?_
        rotate_left
        · (intro w hSw; (try dsimp only at hSw); go_simp; try with_reducible rfl)
        try simp only [Act.put, List.setIfInBounds_toArray, List.set_cons_zero, List.set_cons_succ]
        obtain ⟨wd, hwd⟩ : ∃ wd, wr.drew = wd := ⟨_, rfl⟩
        rw [hwd] at HDR ⊢
        clear hwd
        refine wpAnyZ_oneL (i := 13) (by kernel_rfl) rfl (fun K hK => ?_)
        go_simp
        go_at_call 49
        refine (SH.out wd HDR.out).mono ?_
        rintro e w7 ⟨rfl, hb7⟩
        have HB7 := Lib.hid (HDR.out.trans (hb7.mono HDR.out.size))
        clear hb7 SH
        refine hK.out _ _ (fun _ => HS.out _ HB7.out) (fun hHeld => ?_)
        replace hHeld := hHeld (by decide)
        clear hK K
        try simp only [Act.put, List.setIfInBounds_toArray, List.set_cons_zero, List.set_cons_succ]
        refine wpAnyZ_oneL (i := 14) (by kernel_rfl) rfl (fun K hK => ?_)
        go_simp
        rw [if_neg (by first | omega | (simp only [ByteArray.size_append]; omega))]
        refine hK.out _ _ (fun _ => HS.out _ HB7.out) (fun hHeld => ?_)
        replace hHeld := hHeld (by decide)
        clear hK K
        try simp only [Act.put, List.setIfInBounds_toArray, List.set_cons_zero, List.set_cons_succ]
        refine wpAnyZ_oneL (i := 15) (by kernel_rfl) rfl (fun K hK => ?_)
        go_simp
        refine hK.out _ _ (fun h => absurd h (by decide)) (fun _ => ?_)
        clear hK K
        try simp only [Act.put, List.setIfInBounds_toArray, List.set_cons_zero, List.set_cons_succ]
        refine wpAnyZ_done (by kernel_rfl) ?_ _
        clear hHeld
        go_wp2_with fail
        go_roundg (L.length - (i + 1))
        case measure => omega
        case rel => exact ⟨i + 1, by go_num, by omega, rfl, by rw [HFIN.out, hfb], HB.out.trans (HB7.out.mono hws)⟩
      · have hi0 : (0 : Int) < (i : Int) := by omega
        have HFIN : Hid (bx (joinC ((L.take i).map varT)) ++ ({ data := #[44] } : ByteArray) ++ x.1 ++ ({ data := #[61] } : ByteArray) ++ bx (showT x.2) = bx (joinC ((L.take (i + 1)).map varT))) := by
          unfold Hid
          rw [HTK.out, if_neg h0]
          show bx (joinC ((L.take i).map varT)) ++ bx [44] ++ bx x.1.data.toList ++ bx [61] ++ bx (showT x.2) = _
          unfold varT
          simp only [bx_app, List.append_assoc]
          rfl
        clear h0 HTK
        generalize x.2.kind = k at *
        generalize x.2.bool = b at *
        generalize x.2.int = n at *
        generalize x.2.str = s at *
        generalize x.2.list.length = ll at *
        generalize x.2.keys.length = kl at *
        generalize x.1 = nm at *
        generalize hsb : bx (showT x.2) = sb at *
        generalize hfb : bx (joinC ((L.take (i + 1)).map varT)) = fin at *
        generalize hpb : bx (joinC ((L.take i).map varT)) = sp at *
        clear hsb hpb hss
        as_aux_lemma =>
        go_upto_region 7 with fail
        refine wp_region_Z (S := fun W' : World => W'.cell? ⟨bl, off + i * 7, none⟩ = some (.string nm) ∧ W'.cell? ⟨bl, off + i * 7 + 1, none⟩ = some (.int .i64 k) ∧ W'.cell? ⟨bl, off + i * 7 + 2, none⟩ = some (.bool b) ∧ W'.cell? ⟨bl, off + i * 7 + 3, none⟩ = some (.int .i64 n) ∧ W'.cell? ⟨bl, off + i * 7 + 4, none⟩ = some (.string s) ∧ W'.cell? ⟨bl, off + i * 7 + 5, none⟩ = some (.slice a1 ll c1) ∧ W'.cell? ⟨bl, off + i * 7 + 6, none⟩ = some (.slice a2 kl c2)) 15 (by kernel_rfl) (HS.out _ HDR.out) (fun hHeld => ?_)
        refine wpAnyZ_takeL (i := 0) (v := ?_) rfl (by kernel_rfl) (by kernel_rfl) (by kernel_rfl) (by kernel_rfl) (fun _ _ _ h => h) (Or.inl ⟨by rfl, ?_⟩) (by assumption) ?_
        rotate_left
        · (intro w hSw; (try dsimp only at hSw); go_simp; try with_reducible rfl)
        try simp only [Act.put, List.setIfInBounds_toArray, List.set_cons_zero, List.set_cons_succ]
        refine wpAnyZ_takeL (i := 1) (v := ?_) rfl (by kernel_rfl) (by kernel_rfl) (by kernel_rfl) (by kernel_rfl) (fun _ _ _ h => h) (Or.inl ⟨by rfl, ?_⟩) (by assumption) ?_
        rotate_left
        · (intro w hSw; (try dsimp only at hSw); go_simp; try with_reducible rfl)
        try simp only [Act.put, List.setIfInBounds_toArray, List.set_cons_zero, List.set_cons_succ]
        refine wpAnyZ_takeL (i := 2) (v := ?_) rfl (by kernel_rfl) (by kernel_rfl) (by kernel_rfl) (by kernel_rfl) (fun _ _ _ h => h) (Or.inl ⟨by rfl, ?_⟩) (by assumption) ?_
        rotate_left
        · (intro w hSw; (try dsimp only at hSw); go_simp; try with_reducible rfl)
        try simp only [Act.put, List.setIfInBounds_toArray, List.set_cons_zero, List.set_cons_succ]
        refine wpAnyZ_takeL (i := 3) (v := ?_) rfl (by kernel_rfl) (by kernel_rfl) (by kernel_rfl) (by kernel_rfl) (fun _ _ _ h => h) (Or.inl ⟨by rfl, ?_⟩) (by assumption) ?_
        rotate_left
        · (intro w hSw; (try dsimp only at hSw); go_simp; try with_reducible rfl)
        try simp only [Act.put, List.setIfInBounds_toArray, List.set_cons_zero, List.set_cons_succ]
        refine wpAnyZ_takeL (i := 4) (v := ?_) rfl (by kernel_rfl) (by kernel_rfl) (by kernel_rfl) (by kernel_rfl) (fun _ _ _ h => h) (Or.inl ⟨by rfl, ?_⟩) (by assumption) ?_
        rotate_left
        · (intro w hSw; (try dsimp only at hSw); go_simp; try with_reducible rfl)
        try simp only [Act.put, List.setIfInBounds_toArray, List.set_cons_zero, List.set_cons_succ]
        refine wpAnyZ_takeL (i := 5) (v := ?_) rfl (by kernel_rfl) (by kernel_rfl) (by kernel_rfl) (by kernel_rfl) (fun _ _ _ h => h) (Or.inl ⟨by rfl, ?_⟩) (by assumption) ?_
        rotate_left
        · (intro w hSw; (try dsimp only at hSw); go_simp; try with_reducible rfl)
        try simp only [Act.put, List.setIfInBounds_toArray, List.set_cons_zero, List.set_cons_succ]
        refine wpAnyZ_takeL (i := 6) (v := ?_) rfl (by kernel_rfl) (by kernel_rfl) (by kernel_rfl) (by kernel_rfl) (fun _ _ _ h => h) (Or.inl ⟨by rfl, ?_⟩) (by assumption) ?_
        rotate_left
        · (intro w hSw; (try dsimp only at hSw); go_simp; rw [if_neg (by first | omega | (simp only [ByteArray.size_append]; omega))])
        try simp only [Act.put, List.setIfInBounds_toArray, List.set_cons_zero, List.set_cons_succ]
        refine wpAnyZ_takeL (i := 7) (v := ?_) rfl (by kernel_rfl) (by kernel_rfl) (by kernel_rfl) (by kernel_rfl) (fun _ _ _ h => h) (Or.inl ⟨by rfl, ?_⟩) (by assumption) ?_
        rotate_left
        · (intro w hSw; (try dsimp only at hSw); go_simp; rw [if_neg (by first | omega | (simp only [ByteArray.size_append]; omega))])
        try simp only [Act.put, List.setIfInBounds_toArray, List.set_cons_zero, List.set_cons_succ]
        refine wpAnyZ_takeL (i := 8) (v := ?_) rfl (by kernel_rfl) (by kernel_rfl) (by kernel_rfl) (by kernel_rfl) (fun _ _ _ h => h) (Or.inl ⟨by rfl, ?_⟩) (by assumption) ?_
        rotate_left
        · (intro w hSw; (try dsimp only at hSw); go_simp; try with_reducible rfl)
        try simp only [Act.put, List.setIfInBounds_toArray, List.set_cons_zero, List.set_cons_succ]
        refine wpAnyZ_takeL (i := 9) (v := ?_) rfl (by kernel_rfl) (by kernel_rfl) (by kernel_rfl) (by kernel_rfl) (fun _ _ _ h => h) (Or.inl ⟨by rfl, ?_⟩) (by assumption) ?_
        rotate_left
        · (intro w hSw; (try dsimp only at hSw); go_simp; try with_reducible rfl)
        try simp only [Act.put, List.setIfInBounds_toArray, List.set_cons_zero, List.set_cons_succ]
        refine wpAnyZ_takeL (i := 10) (v := ?_) rfl (by kernel_rfl) (by kernel_rfl) (by kernel_rfl) (by kernel_rfl) (fun _ _ _ h => h) (Or.inl ⟨by rfl, ?_⟩) (by assumption) ?_
        rotate_left
        · (intro w hSw; (try dsimp only at hSw); go_simp; try with_reducible rfl)
        try simp only [Act.put, List.setIfInBounds_toArray, List.set_cons_zero, List.set_cons_succ]
        refine wpAnyZ_takeL (i := 11) (v := ?_) rfl (by kernel_rfl) (by kernel_rfl) (by kernel_rfl) (by kernel_rfl) (fun _ _ _ h => h) (Or.inl ⟨by rfl, ?_⟩) (by assumption) ?_
        rotate_left
        · (intro w hSw; (try dsimp only at hSw); go_simp; try with_reducible rfl)
        try simp only [Act.put, List.setIfInBounds_toArray, List.set_cons_zero, List.set_cons_succ]
        refine wpAnyZ_takeL (i := 12) (v := ?_) rfl (by kernel_rfl) (by kernel_rfl) (by kernel_rfl) (by kernel_rfl) (fun _ _ _ h => h) (Or.inl ⟨by rfl, ?_⟩) (by assumption) ?_
        rotate_left
        · (intro w hSw; (try dsimp only at hSw); go_simp; try with_reducible rfl)
        try simp only [Act.put, List.setIfInBounds_toArray, List.set_cons_zero, List.set_cons_succ]
        obtain ⟨wd, hwd⟩ : ∃ wd, wr.drew = wd := ⟨_, rfl⟩
        rw [hwd] at HDR ⊢
        clear hwd
        refine wpAnyZ_oneL (i := 13) (by kernel_rfl) rfl (fun K hK => ?_)
        go_simp
        go_at_call 49
        refine (SH.out wd HDR.out).mono ?_
        rintro e w7 ⟨rfl, hb7⟩
        have HB7 := Lib.hid (HDR.out.trans (hb7.mono HDR.out.size))
        clear hb7 SH
        refine hK.out _ _ (fun _ => HS.out _ HB7.out) (fun hHeld => ?_)
        replace hHeld := hHeld (by decide)
        clear hK K
        try simp only [Act.put, List.setIfInBounds_toArray, List.set_cons_zero, List.set_cons_succ]
        refine wpAnyZ_oneL (i := 14) (by kernel_rfl) rfl (fun K hK => ?_)
        go_simp
        rw [if_neg (by first | omega | (simp only [ByteArray.size_append]; omega))]
        refine hK.out _ _ (fun _ => HS.out _ HB7.out) (fun hHeld => ?_)
        replace hHeld := hHeld (by decide)
        clear hK K
        try simp only [Act.put, List.setIfInBounds_toArray, List.set_cons_zero, List.set_cons_succ]
        refine wpAnyZ_oneL (i := 15) (by kernel_rfl) rfl (fun K hK => ?_)
        go_simp
        refine hK.out _ _ (fun h => absurd h (by decide)) (fun _ => ?_)
        clear hK K
        try simp only [Act.put, List.setIfInBounds_toArray, List.set_cons_zero, List.set_cons_succ]
        refine wpAnyZ_done (by kernel_rfl) ?_ _
        clear hHeld
        go_wp2_with fail
        go_roundg (L.length - (i + 1))
        case measure => omega
        case rel => exact ⟨i + 1, by go_num, by omega, rfl, by rw [HFIN.out, hfb], HB.out.trans (HB7.out.mono hws)⟩
    · have hii : ¬ (i : Int) < (L.length : Int) := by omega
      have he : i = L.length := by omega
      have HN : Hid (suffF L = joinC ((L.take i).map varT)) := by unfold Hid; rw [he, List.take_length]; rfl
      clear he hsl hss
      generalize joinC ((L.take i).map varT) = q at *
      as_aux_lemma =>
      go_wp2_with fail
      go_ret
      exact ⟨by rw [HN.out] <;> rfl, HB.out⟩

def SaRel (n : Nat) (w1 : World) (f : Nat) (t5 : Value) (wr : World) : Prop :=
  ∃ i : Nat, t5 = .int .i64 (i : Nat) ∧ i ≤ n ∧ f = n - i ∧ Below w1.heap.size w1 wr
set_option maxRecDepth 100000 in
set_option maxHeartbeats 3200000 in
theorem rsame_eq (L : List (List VR)) (u v : Value) (B C : Nat → Prop) (hl : L.length ≤ 9223372036854775807) (hw : ∀ x ∈ L, wfVars x) (w : World) (hu : EVars.Row B w L u) (hv : EVars.Row C w L v) :
    Calls Tryz.prog 12 #[u, v] w fun e w' => e = .returned (.bool true) ∧ Below w.heap.size w w' := by
  obtain ⟨uo, uc, rfl⟩ := hu.form
  obtain ⟨vo, vc, rfl⟩ := hv.form
  have HU := Lib.hid hu
  have HV := Lib.hid hv
  have HW := Lib.hid hw
  have tl : (((L.length : Nat) : Int) != ((L.length : Nat) : Int)) = false := by simp
  clear hu hv hw
  go_enter Tryz.func12, Tryz.ntmps12
  go_wp2_with fail
  go_loopg [5] L.length (SaRel L.length w)
  case atStart => exact ⟨0, rfl, Nat.zero_le _, rfl, Below.refl _ _⟩
  case round =>
    obtain ⟨i, rfl, hi, rfl, hbel⟩ := hrel
    have HB := Lib.hid hbel
    clear hbel
    by_cases hlt : i < L.length
    · have hii : (i : Int) < (L.length : Int) := by omega
      obtain ⟨b1, o1, a1, c1, e1, hb1, y1, hr1⟩ := evars_at (HU.out.below HB.out) hlt
      obtain ⟨b2, o2, a2, c2, e2, hb2, y2, hr2⟩ := evars_at (HV.out.below HB.out) hlt
      subst e1 e2
      have hwx := HW.out _ (List.getElem_mem hlt)
      have SM : Hid (∀ W', Below wr.heap.size wr W' → Calls Tryz.prog 34 #[.slice a1 L[i].length c1, .slice a2 L[i].length c2] W' fun e w' => e = .returned (.bool true) ∧ Below W'.heap.size W' w') := fun W' h => samevars_eq L[i] _ _ B C hwx.1 (fun x hx => (hwx.2 x hx).2) W' (hr1.below h) (hr2.below h)
      have HDR : Hid (Below wr.heap.size wr wr.drew) := (Below.refl _ wr).drew
      clear hwx hr1 hr2
      generalize L[i].length = n at *
      as_aux_lemma =>
      go_upto_region 6 with fail
      go_still_tail 8, (by kernel_rfl)
      change wpList _ _ _ _ _ (World.drew _)
      go_wp2_with fail
      refine (SM.out _ HDR.out).mono ?_
      rintro e w5 ⟨rfl, hb5⟩
      have HB5 := Lib.hid (HB.out.trans ((HDR.out.trans (hb5.mono HDR.out.size)).mono HB.out.size))
      clear hb5 SM
      go_wp2_with fail
      go_roundg (L.length - (i + 1))
      case measure => omega
      case rel => exact ⟨i + 1, by go_num, by omega, rfl, HB5.out⟩
    · have hii : ¬ (i : Int) < (L.length : Int) := by omega
      as_aux_lemma =>
      go_wp2_with fail
      go_ret
      exact ⟨rfl, HB.out⟩
end Go.Proofs.YtomecnncighkgaaGreatDoor
