/- The walk over the reference's Critical. -/
import Derived.Test.YtfegmmafcopbpaaGreatDoorRg13
import Derived.Test.YtfegmmafcopbpaaGreatDoorGw16
import Derived.StillTailTactics
import Derived.BigQuiet
namespace Go.Proofs.YtfegmmafcopbpaaGreatDoor
open Go.RowKit

theorem valid_full {G : Gr} (h : validF G = 0) : formedF G = 0 ∧ (ordG G).length = G.length := by
  have h0 : formedF G = 0 := by
    unfold validF at h
    by_cases h2 : formedF G = 0
    · exact h2
    · rw [if_pos (by simpa using h2)] at h; exact h
  refine ⟨h0, ?_⟩
  unfold validF at h
  rw [if_neg (show ¬ formedF G ≠ 0 by simp [h0])] at h
  have := (ordG_listed G).len
  by_cases h3 : (ordG G).length < G.length
  · rw [if_pos h3] at h; cases h
  · omega
theorem badZ_allR {cs : List Int} (h : ∀ j, j < cs.length → 0 ≤ cs.getD j 0 ∧ cs.getD j 0 ≤ 1125899906842624) : cs.any badZ = false := by
  rw [List.any_eq_false]
  intro z hz
  obtain ⟨j, hj, rfl⟩ := List.getElem_of_mem hz
  have h1 := h j hj
  rw [List.getD, List.getElem?_eq_getElem hj] at h1
  simp only [Option.getD_some] at h1
  unfold badZ
  simp
  omega
theorem badZ_at {cs : List Int} {i : Nat} (hi : i < cs.length) (h : cs.getD i 0 < 0 ∨ 1125899906842624 < cs.getD i 0) : cs.any badZ = true := by
  rw [List.any_eq_true]
  refine ⟨cs[i], List.getElem_mem hi, ?_⟩
  rw [List.getD, List.getElem?_eq_getElem hi] at h
  simp only [Option.getD_some] at h
  unfold badZ
  simpa using h
def ctF (F : Nat → Way) (j : Nat) : Way := ((List.range j).drop 1).foldl (fun w x => betF w (F x)) (F 0)
theorem ctF_one (F : Nat → Way) : ctF F 1 = F 0 := rfl
theorem ctF_succ (F : Nat → Way) {j : Nat} (hj : 1 ≤ j) : ctF F (j + 1) = betF (ctF F j) (F j) := by
  unfold ctF
  rw [List.range_succ, List.drop_append_of_le_length (by rw [List.length_range]; exact hj), List.foldl_append]
  rfl
theorem ctF_ok {G : Gr} {F : Nat → Way} {M c : Nat} (h : ∀ j, WyOk G M c (F j)) : ∀ j, WyOk G M c (ctF F (j + 1))
  | 0 => h 0
  | j + 1 => by
    rw [ctF_succ F (by omega)]
    exact (ctF_ok h j).bet (h (j + 1))
theorem ctF_ok1 {G : Gr} {F : Nat → Way} {M c : Nat} (h : ∀ j, WyOk G M c (F j)) {j : Nat} (hj : 1 ≤ j) : WyOk G M c (ctF F j) := by
  obtain ⟨k, rfl⟩ : ∃ k, j = k + 1 := ⟨j - 1, by omega⟩
  exact ctF_ok h k
def RCritPost (x : Way) (w : World) (e : Ending) (w' : World) : Prop :=
  ∃ sv ss, e = .returned (.tuple #[.int .i64 ((x.1 : Nat) : Int), sv]) ∧ StrsAt w' sv ss ∧ dts ss = x.2 ∧ Below w.heap.size w w'
def RCosRel (w1 : World) (cs : List Int) (f : Nat) (t6 : Value) (wr : World) : Prop :=
  ∃ i : Nat, t6 = .int .i64 (i : Nat) ∧ i ≤ cs.length ∧ f = cs.length - i ∧ (∀ j, j < i → 0 ≤ cs.getD j 0 ∧ cs.getD j 0 ≤ 1125899906842624) ∧ wr = w1
def RCrRel (W0 : World) (F : Nat → Way) (bo bb n : Nat) (f : Nat) (t9 : Value) (wr : World) : Prop :=
  ∃ j : Nat, t9 = .int .i64 (j : Nat) ∧ 1 ≤ j ∧ j ≤ n ∧ f = n - j ∧ Bst W0 bo bb wr (ctF F j)

set_option maxRecDepth 100000 in
set_option maxHeartbeats 6400000 in
theorem rcrit_any (nv cv : Value) (ns : List Nd) (cs : List Int) (hl : ns.length ≤ 1000) (hnl : ∀ x ∈ ns, x.needs.length ≤ 9223372036854775807) (w : World) (h : NdAt w nv ns) (hc : ZsAt w cv cs) :
    Calls Tryz.prog 28 #[nv, cv] w (RCritPost (criticalF (grO ns) cs) w) := by
  have VA := Lib.hid (rvalid_any nv ns (by omega) hnl w h)
  have FR : Hid (validF (grO ns) = 0 → cs.length = ns.length → (∀ j, j < cs.length → 0 ≤ cs.getD j 0 ∧ cs.getD j 0 ≤ 1125899906842624) → ∀ W, Below w.heap.size w W → Calls Tryz.prog 58 #[nv, cv] W (FromPost ns cs W)) := fun h1 h2 h3 W hW =>
    rfrom_any nv cv ns cs (formed_sound (valid_full h1).1) (by rw [(valid_full h1).2, grO_len]) h2 h3 W (h.below hW) (SlAt.below hc hW)
  obtain ⟨ao, cap, rfl⟩ := h.sl.form
  obtain ⟨cao, ccap, rfl⟩ := SlAt.form hc
  have HC := Lib.hid hc
  have HL := Lib.hid (grO_len ns)
  clear h hc hnl
  go_enter Tryz.func28, Tryz.ntmps28
  by_cases hv : validF (grO ns) = 0
  · by_cases hcl : cs.length = ns.length
    · by_cases h0 : ns.length = 0
      · have HCR : Hid (criticalF (grO ns) cs = (0, [])) := by unfold Hid criticalF; rw [if_pos (.inr (.inr (.inr (by rw [HL.out]; exact h0))))]
        have t1 : (((ns.length : Int)) != (cs.length : Int)) = false := by rw [hcl]; simp
        have t2 : ((ns.length : Int) == 0) = true := by rw [h0]; rfl
        rw [hv] at VA
        have H0 := Lib.hid h0
        have H1 := Lib.hid hcl
        clear hv hcl h0 FR
        as_aux_lemma =>
        go_wp2_with fail
        refine VA.out.mono ?_
        rintro e w1 ⟨rfl, hb⟩
        have HB := Lib.hid hb
        clear hb
        go_wp2_with fail
        go_ret2
        exact ⟨_, [], by rw [HCR.out]; rfl, .inl ⟨_, _, rfl, rfl⟩, by rw [HCR.out]; rfl, HB.out⟩
      · have t1 : (((ns.length : Int)) != (cs.length : Int)) = false := by rw [hcl]; simp
        have t2 : ((ns.length : Int) == 0) = false := by rw [beq_eq_false_iff_ne]; omega
        have HV := Lib.hid hv
        have FR1 := Lib.hid (FR.out hv hcl)
        have HS := Lib.hid (formed_sound (valid_full hv).1)
        have HFU := Lib.hid (valid_full hv).2
        have HCL := Lib.hid hcl
        have hpos : 0 < ns.length := by omega
        have hcb : cs.length ≤ 1000 := by omega
        rw [hv] at VA
        clear hv hcl FR h0
        go_wp2_with fail
        refine VA.out.mono ?_
        rintro e w1 ⟨rfl, hb⟩
        have HB := Lib.hid hb
        clear hb VA
        go_wp2_with fail
        clear t1 t2
        go_loopg [6] cs.length (RCosRel w1 cs)
        case atStart => exact ⟨0, rfl, Nat.zero_le _, rfl, fun j hj => absurd hj (Nat.not_lt_zero j), rfl⟩
        case round =>
          obtain ⟨i, rfl, hi, rfl, hall, rfl⟩ := hrel
          have HALL := Lib.hid hall
          clear hall
          by_cases hlt : i < cs.length
          · have hii : ((i : Nat) : Int) < (cs.length : Int) := by omega
            obtain ⟨b, off, rfl, hbl, hcc⟩ := zs_atc (HC.out.below HB.out) hlt
            have HNX : Hid ((0 ≤ cs.getD i 0 ∧ cs.getD i 0 ≤ 1125899906842624) → ∀ j, j < i + 1 → 0 ≤ cs.getD j 0 ∧ cs.getD j 0 ≤ 1125899906842624) := fun h j hj => by
              by_cases e : j = i
              · subst e; exact h
              · exact HALL.out j (by omega)
            have HBD : Hid (cs.getD i 0 < 0 ∨ 1125899906842624 < cs.getD i 0 → criticalF (grO ns) cs = (0, [])) := fun h => by
              unfold criticalF
              rw [if_pos (.inr (.inr (.inl (badZ_at hlt h))))]
            generalize cs.getD i 0 = z at *
            by_cases h1 : z < 0
            · have HCR := Lib.hid (HBD.out (.inl h1))
              clear FR1 HBD
              as_aux_lemma =>
              go_wp2_with fail
              go_ret2
              exact ⟨_, [], by rw [HCR.out]; rfl, .inl ⟨_, _, rfl, rfl⟩, by rw [HCR.out]; rfl, HB.out⟩
            · by_cases h2 : 1125899906842624 < z
              · have HCR := Lib.hid (HBD.out (.inr h2))
                clear FR1 HBD
                as_aux_lemma =>
                go_wp2_with fail
                go_ret2
                exact ⟨_, [], by rw [HCR.out]; rfl, .inl ⟨_, _, rfl, rfl⟩, by rw [HCR.out]; rfl, HB.out⟩
              · have HN2 := Lib.hid (HNX.out ⟨by omega, by omega⟩)
                clear FR1 HNX HBD
                as_aux_lemma =>
                go_wp2_with fail
                go_roundg (cs.length - (i + 1))
                case measure => omega
                case rel => exact ⟨i + 1, by go_num, by omega, rfl, HN2.out, rfl⟩
          · have he : i = cs.length := by omega
            rw [he] at HALL
            clear he
            have hgl : (grO ns).length ≠ 0 := by rw [HL.out]; omega
            have HCE : Hid (criticalF (grO ns) cs = ctF (fromTo (grO ns) (costR cs) (ordG (grO ns)).reverse) ns.length) := by
              unfold Hid criticalF
              rw [if_neg]
              · have := crit_same HS.out HFU.out hgl (costN cs)
                rw [← this, HL.out]
                rfl
              · simp only [not_or, Decidable.not_not, Bool.not_eq_true]
                exact ⟨HV.out, by rw [HL.out]; exact HCL.out, badZ_allR HALL.out, hgl⟩
            have HOK : Hid (∀ j, WyOk (grO ns) 1125899906842624 ns.length (fromTo (grO ns) (costR cs) (ordG (grO ns)).reverse j)) := fun j => by
              have := from_ok (G := grO ns) (C := costR cs) (M := 1125899906842624) (fun k _ => costR_le HALL.out k) (ordG (grO ns)).reverse (fun k hk => (ordG_listed (grO ns)).lt k (List.mem_reverse.1 hk)) j
              rwa [List.length_reverse, HFU.out, HL.out] at this
            have FR2 := Lib.hid (FR1.out HALL.out _ HB.out)
            clear FR1 hgl HV
            go_wp2_with fail
            refine FR2.out.mono ?_
            rintro e w3 ⟨bo, rfl, hwy, hb⟩
            generalize fromTo (grO ns) (costR cs) (ordG (grO ns)).reverse = F at *
            have HWY := Lib.hid hwy
            have HB3 := Lib.hid (HB.out.trans (hb.mono HB.out.size))
            have hbow := hwy.lt
            obtain ⟨u, ps, c0, c1, hou, hdp⟩ := hwy.at_ hpos
            obtain ⟨ua, uc, rfl⟩ := ownsRow_form hou
            have c0' : w3.cell? ⟨bo, 0, none⟩ = some (.int .i64 (((F 0).1 : Nat) : Int)) := by simpa using c0
            have c1' : w3.cell? ⟨bo, 1, none⟩ = some (.slice ua ps.length uc) := by simpa using c1
            have HOU := Lib.hid hou
            have HDP := Lib.hid hdp
            have hn0 : (0 : Int) < (ns.length : Int) := by omega
            clear hwy hb FR2 c0 c1 hou hdp
            have HNB : Hid ((w3.alloc (.cells #[.int .i64 0, .slice none 0 0] 85 (0, 0))).heap[w3.heap.size]? = some (.cells #[.int .i64 0, .slice none 0 0] 85 (0, 0))) := hp_new rfl
            go_wp2_with (refine wpList_store_row rfl 85 _ _ rfl w3.heap.size rfl 85 _ HNB.out (.agg #[.int .i64 (((F 0).1 : Nat) : Int), .slice ua ps.length uc]) rfl (by kernel_rfl) rfl rfl ?_)
            intro w4 hw4
            have HBST0 : Hid (Bst w3 bo w3.heap.size w4 (ctF F 1)) := Bst.put (x := F 0) (Nat.le_refl _) ((Below.refl _ w3).alloc (Nat.le_refl _) _) (World.ownsRow.alloc HOU.out _) HDP.out (fun e => absurd (World.ownsRow.lt HOU.out _ e).2 (Nat.lt_irrefl _)) hw4
            obtain ⟨bb, hbb⟩ : ∃ bb, w3.heap.size = bb := ⟨_, rfl⟩
            have HBE := Lib.hid hbb
            rw [hbb] at HBST0 ⊢
            clear hw4 hbb HNB c0' c1'
            go_wp2_with fail
            go_loopg [9] (ns.length - 1) (RCrRel w3 F bo bb ns.length)
            case atStart => exact ⟨1, rfl, Nat.le_refl _, hpos, rfl, HBST0.out⟩
            case round =>
              obtain ⟨j, rfl, hj1, hj, rfl, hbst⟩ := hrel
              obtain ⟨hbl, hbw, u, ps, hcell, hou, hdp, hnu⟩ := hbst
              have HBW := Lib.hid hbw
              have HCELL := Lib.hid hcell
              have HBL := Lib.hid hbl
              clear HBST0
              by_cases hjl : j < ns.length
              · have hji : ((j : Nat) : Int) < (ns.length : Int) := by omega
                obtain ⟨v, qs, d0, d1, hov, hdq⟩ := HWY.out.at_ hjl
                have hd0 := (hbw.cell (p := ⟨bo, j * 2, none⟩) hbow).trans d0
                have hd1 := (hbw.cell (p := ⟨bo, j * 2 + 1, none⟩) hbow).trans d1
                have hnv : v.ownBlock ≠ some bb := fun e => by
                  have h1 := (World.ownsRow.lt hov _ e).2
                  have h2 := HBE.out
                  omega
                have BT := Lib.hid (better_own HS.out (bo := bo) (bb := bb) (M := 1125899906842624) (c := ns.length) (by omega) (ctF F j) (F j) u v ps qs (ctF_ok1 HOK.out hj1) (HOK.out j) hdp hdq wr.drew (World.ownsRow.drew hou) (World.ownsRow.drew (ownsRow_below hov hbw)) hnu hnv)
                obtain ⟨ua, uc, rfl⟩ := ownsRow_form hou
                obtain ⟨va, vc, rfl⟩ := ownsRow_form hov
                have HCS := Lib.hid (ctF_succ F hj1)
                obtain ⟨x0, x1, _, _⟩ := blk2 hcell
                clear hbl hbw hcell hou hdp hnu d0 d1 hov hdq hnv
                as_aux_lemma =>
                go_upto_region 13 with fail
                go_still_tail 5, (by kernel_rfl)
                change wpList _ _ _ _ _ (World.drew _)
                go_wp2_with fail
                refine BT.out.mono ?_
                rintro e w6 ⟨v6, p6, rfl, ho6, hn6, hd6, hb6⟩
                obtain ⟨wa, wc, rfl⟩ := ownsRow_form ho6
                have HB6 : Hid (Below w3.heap.size w3 w6) := HBW.out.drew.trans (hb6.mono HBW.out.size)
                have HBB6 := Lib.hid ((hb6.block bb (Array.getElem?_eq_some_iff.1 HCELL.out).1).trans HCELL.out)
                have HO6 := Lib.hid ho6
                have HN6 := Lib.hid hn6
                have HD6 := Lib.hid hd6
                clear ho6 hn6 hd6 hb6 BT x0 x1 hd0 hd1
                go_wp2_with (refine wpList_store_row rfl 85 _ _ rfl bb rfl 85 _ HBB6.out (.agg #[.int .i64 (((betF (ctF F j) (F j)).1 : Nat) : Int), .slice wa p6.length wc]) rfl (by kernel_rfl) rfl rfl ?_)
                intro w7 hw7
                have HP : Hid (Bst w3 bo bb w7 (ctF F (j + 1))) := by
                  unfold Hid
                  rw [HCS.out]
                  exact Bst.put HBL.out HB6.out HO6.out HD6.out HN6.out hw7
                clear hw7
                go_wp2_with fail
                go_roundg (ns.length - (j + 1))
                case measure => omega
                case rel => exact ⟨j + 1, by go_num, by omega, by omega, rfl, HP.out⟩
              · have he : j = ns.length := by omega
                subst he
                obtain ⟨ua, uc, rfl⟩ := ownsRow_form hou
                obtain ⟨x0, x1, _, _⟩ := blk2 hcell
                have HOU := Lib.hid hou
                have HDP := Lib.hid hdp
                have HB8 := Lib.hid (HB3.out.trans (hbw.mono HB3.out.size))
                clear hbl hbw hcell hou hdp hnu
                as_aux_lemma =>
                go_upto_region 14 with fail
                go_quiet (fail)
                rename_i nq
                have HST : Hid (StrsAt (wr.drewN nq) (.slice ua ps.length uc) ps) := (StrsAt.of_row HOU.out).below (below_drewN wr nq)
                have HB9 : Hid (Below w.heap.size w (wr.drewN nq)) := HB8.out.trans ((below_drewN wr nq).mono HB8.out.size)
                go_wp2_with fail
                go_ret2
                exact ⟨_, ps, by rw [HCE.out]; rfl, HST.out, by rw [HCE.out]; exact HDP.out, HB9.out⟩
    · have HCR : Hid (criticalF (grO ns) cs = (0, [])) := by unfold Hid criticalF; rw [if_pos (.inr (.inl (by rw [HL.out]; exact hcl)))]
      have t1 : (((ns.length : Int)) != (cs.length : Int)) = true := by rw [bne_iff_ne]; omega
      rw [hv] at VA
      have H1 := Lib.hid hcl
      clear hv hcl FR
      as_aux_lemma =>
      go_wp2_with fail
      refine VA.out.mono ?_
      rintro e w1 ⟨rfl, hb⟩
      have HB := Lib.hid hb
      clear hb
      go_wp2_with fail
      go_ret2
      exact ⟨_, [], by rw [HCR.out]; rfl, .inl ⟨_, _, rfl, rfl⟩, by rw [HCR.out]; rfl, HB.out⟩
  · have HCR : Hid (criticalF (grO ns) cs = (0, [])) := by unfold Hid criticalF; rw [if_pos (.inl hv)]
    have h2i : (((validF (grO ns) : Nat) : Int) != 0) = true := by simp; exact hv
    clear hv FR
    generalize validF (grO ns) = vf at *
    as_aux_lemma =>
    go_wp2_with fail
    refine VA.out.mono ?_
    rintro e w1 ⟨rfl, hb⟩
    have HB := Lib.hid hb
    clear hb
    go_wp2_with fail
    go_ret2
    exact ⟨_, [], by rw [HCR.out]; rfl, .inl ⟨_, _, rfl, rfl⟩, by rw [HCR.out]; rfl, HB.out⟩
end Go.Proofs.YtfegmmafcopbpaaGreatDoor
