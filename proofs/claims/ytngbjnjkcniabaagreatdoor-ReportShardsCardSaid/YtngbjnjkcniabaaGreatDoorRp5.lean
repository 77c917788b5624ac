/- The walk over report.result. -/
import Derived.Test.YtngbjnjkcniabaaGreatDoorRp4
namespace Go.Proofs.YtngbjnjkcniabaaGreatDoor
open Go.RowKit

theorem pcs_le (c : UInt8) : ∀ (l : List UInt8), ∀ x ∈ pcs c l, x.length ≤ l.length
  | [], x, h => by
    rw [pcs, List.mem_singleton] at h
    rw [h]
    exact Nat.le_refl _
  | b :: l, x, h => by
    have ih := pcs_le c l
    rw [pcs] at h
    by_cases hb : b = c
    · rw [if_pos hb] at h
      rcases List.mem_cons.1 h with rfl | h
      · exact Nat.zero_le _
      · exact Nat.le_succ_of_le (ih x h)
    · rw [if_neg hb] at h
      rcases List.mem_cons.1 h with rfl | h
      · exact Nat.succ_le_succ (ih _ (by rw [pcs_ne c l]; exact List.mem_cons_self))
      · exact Nat.le_succ_of_le (ih x (by rw [pcs_ne c l]; exact List.mem_cons_of_mem _ h))
theorem StrsAt.litR {w : World} {b off n cap : Nat} {ss : List ByteArray} (h : StrsAt w (.slice (some ⟨b, off, none⟩) n cap) ss) {k : Nat} (hk : k < ss.length) : b < w.heap.size ∧ w.cell? ⟨b, off + k, none⟩ = some (.string (ss.getD k ByteArray.empty)) := by
  obtain ⟨b', off', e, h1⟩ := h.at_ hk
  injection e with e
  injection e with e1 e2
  subst e1 e2
  exact h1

set_option maxRecDepth 100000 in
set_option maxHeartbeats 3200000 in
theorem result_any (s : ByteArray) (m : Int) (ev : Value) (hsz : s.size ≤ 1000000) (w : World) (hm : w.cell? ⟨0, 0, none⟩ = some (.int .i64 m)) (hml : 0 < w.heap.size)
    (hv : w.cell? ⟨2, 0, none⟩ = some ev) (hvl : 2 < w.heap.size) (hev : ev = .nilIface ∨ ∃ te pe, ev = .iface te pe) :
    Calls Tryz.prog 28 #[.string s] w (RsPost (oneF s.data.toList) w) := by
  have HMX : Hid (∀ W, Below w.heap.size w W → W.cell? ⟨0, 0, none⟩ = some (.int .i64 m)) := fun W hW => (hW.cell (p := ⟨0, 0, none⟩) hml).trans hm
  have HVX : Hid (∀ W, Below w.heap.size w W → W.cell? ⟨2, 0, none⟩ = some ev) := fun W hW => (hW.cell (p := ⟨2, 0, none⟩) hvl).trans hv
  have HEV := Lib.hid hev
  have HSZ := Lib.hid (Lib.size_eq s)
  clear hm hml hv hvl hev
  go_enter Tryz.func28, Tryz.ntmps28
  obtain ⟨W1, hW1⟩ : ∃ W, w.alloc (.cells #[.string ⟨#[]⟩, .int .i64 0, .int .i64 0] 41 (0, 0)) = W := ⟨_, rfl⟩
  have HB1 : Hid (Below w.heap.size w W1) := by unfold Hid; rw [← hW1]; exact (Below.refl _ _).alloc (Nat.le_refl _) _
  have HG1 : Hid (W1.heap[w.heap.size]? = some (.cells #[.string ⟨#[]⟩, .int .i64 0, .int .i64 0] 41 (0, 0))) := by unfold Hid; rw [← hW1]; exact hp_new rfl
  have HS1 : Hid (W1.heap.size = w.heap.size + 1) := by unfold Hid; rw [← hW1]; simp
  have SP := Lib.hid (Tryz.strings_Split s ⟨#[32]⟩ m W1 (by omega) (HMX.out W1 HB1.out) (by decide))
  go_upto_region 1 with fail
  clear hW1
  go_wp2_with fail
  refine SP.out.mono ?_
  rintro e w2 ⟨rfl, rfl⟩
  have hlen := Lib.splitB_all ⟨#[32]⟩ (by decide) 0 _ s rfl
  have hle := Lib.countB_le ⟨#[32]⟩ (by decide) s.size s (Nat.le_refl _)
  have HPC := Lib.hid (split_32 s)
  have hat : StrsAt (W1.alloc (.cells ((Lib.splitB ⟨#[32]⟩ 0 (Lib.countB s ⟨#[32]⟩) s).map Value.string).toArray 9)) (.slice (some ⟨W1.heap.size, 0, none⟩) (Lib.countB s ⟨#[32]⟩ + 1) (Lib.countB s ⟨#[32]⟩ + 1)) (Lib.splitB ⟨#[32]⟩ 0 (Lib.countB s ⟨#[32]⟩) s) := by
    refine .inr ⟨W1.heap.size, 0, _, by rw [hlen], by simp, by rw [hlen]; exact Nat.le_refl _, fun i hi => ?_⟩
    rw [cell_of_blk (hp_new rfl)]
    simp [List.getD, hi]
  have HB2 := Lib.hid (HB1.out.alloc HB1.out.size (.cells ((Lib.splitB ⟨#[32]⟩ 0 (Lib.countB s ⟨#[32]⟩) s).map Value.string).toArray 9))
  have HG2 : Hid ((W1.alloc (.cells ((Lib.splitB ⟨#[32]⟩ 0 (Lib.countB s ⟨#[32]⟩) s).map Value.string).toArray 9)).heap[w.heap.size]? = some (.cells #[.string ⟨#[]⟩, .int .i64 0, .int .i64 0] 41 (0, 0))) := (hp_old (by have := HS1.out; omega)).trans HG1.out
  have HAT := Lib.hid hat
  clear hat SP HG1
  generalize W1.alloc (.cells ((Lib.splitB ⟨#[32]⟩ 0 (Lib.countB s ⟨#[32]⟩) s).map Value.string).toArray 9) = w2 at *
  generalize Lib.splitB ⟨#[32]⟩ 0 (Lib.countB s ⟨#[32]⟩) s = ss at *
  generalize Lib.countB s ⟨#[32]⟩ = n at *
  have HLEN : Hid (ss.length = n + 1) := hlen
  clear hlen
  by_cases hn : n = 2
  · subst hn
    obtain ⟨a, b, c, rfl⟩ : ∃ a b c, ss = [a, b, c] := by
      have := HLEN.out
      rcases ss with _ | ⟨a, _ | ⟨b, _ | ⟨c, _ | ⟨d, r⟩⟩⟩⟩
      · cases this
      · cases this
      · cases this
      · exact ⟨a, b, c, rfl⟩
      · simp at this
    have HON := Lib.hid (one_three (l := s.data.toList) HPC.out.symm)
    have hcs : c.size ≤ s.size := by
      rw [Lib.size_eq, Lib.size_eq]
      exact pcs_le 32 _ _ (by rw [← HPC.out]; simp)
    clear HPC HLEN
    have PC : Hid (∀ W, Below w2.heap.size w2 W → W.cell? ⟨W1.heap.size, 0, none⟩ = some (.string a) ∧ W.cell? ⟨W1.heap.size, 1, none⟩ = some (.string b) ∧ W.cell? ⟨W1.heap.size, 2, none⟩ = some (.string c)) := fun W hW =>
      ⟨((HAT.out.below hW).litR (k := 0) (show 0 < 3 by decide)).2, ((HAT.out.below hW).litR (k := 1) (show 1 < 3 by decide)).2, ((HAT.out.below hW).litR (k := 2) (show 2 < 3 by decide)).2⟩
    have WD := Lib.hid (words_any w2)
    go_wp2_with fail
    refine WD.out.mono ?_
    rintro e w3 ⟨rfl, hb⟩
    have HB3 := Lib.hid (HB2.out.trans (hb.mono HB2.out.size))
    have HB23 := Lib.hid hb
    have HKB : Hid ((w3.alloc (.cells #[.string ⟨#[]⟩, .string ⟨#[]⟩, .string ⟨#[]⟩, .string ⟨#[]⟩] 66 (0, 0))).heap[w3.heap.size]? = some (.cells #[.string ⟨#[]⟩, .string ⟨#[]⟩, .string ⟨#[]⟩, .string ⟨#[]⟩] 66 (0, 0))) := hp_new rfl
    clear hb WD
    go_wp2_with (refine wpList_store_row rfl 66 _ _ rfl w3.heap.size rfl 66 _ HKB.out (.agg #[.string ⟨#[]⟩, .string ⟨#[112, 97, 115, 115]⟩, .string ⟨#[102, 97, 105, 108]⟩, .string ⟨#[115, 107, 105, 112]⟩]) rfl (by kernel_rfl) rfl rfl ?_)
    intro w4 hw4
    have HB24 : Hid (Below w2.heap.size w2 w4) := (HB23.out.alloc HB23.out.size _).trans (hw4.below HB23.out.size)
    have HB4 : Hid (Below w.heap.size w w4) := (HB3.out.alloc HB3.out.size _).trans (hw4.below HB3.out.size)
    have HK4 := Lib.hid hw4.at_
    obtain ⟨kb, hkb⟩ : ∃ kb, w3.heap.size = kb := ⟨_, rfl⟩
    rw [hkb] at HK4 ⊢
    clear hw4 hkb HKB HB3 HB23
    have HIX := fun nq => Lib.hid (Calls.quiet_of_same (Tryz.slices_Index_string kb 1 3 3 [⟨#[112, 97, 115, 115]⟩, ⟨#[102, 97, 105, 108]⟩, ⟨#[115, 107, 105, 112]⟩] a (w4.drewN nq) (by decide) (by decide) (fun j hj => by
      have h0 : (w4.drewN nq).heap[kb]? = some (.cells #[.string ⟨#[]⟩, .string ⟨#[112, 97, 115, 115]⟩, .string ⟨#[102, 97, 105, 108]⟩, .string ⟨#[115, 107, 105, 112]⟩] 66 (0, 0)) := HK4.out
      rw [cell_of_blk h0]
      rcases j with _ | _ | _ | j
      · rfl
      · rfl
      · rfl
      · simp at hj; omega)))
    have hwi := word_idx a
    have hwr : IntKind.i64.wrap (Lib.idxOfS ([⟨#[112, 97, 115, 115]⟩, ⟨#[102, 97, 105, 108]⟩, ⟨#[115, 107, 105, 112]⟩].take 3) a + 1) = ((statV a.data.toList : Nat) : Int) := by
      show IntKind.i64.wrap (Lib.idxOfS [⟨#[112, 97, 115, 115]⟩, ⟨#[102, 97, 105, 108]⟩, ⟨#[115, 107, 105, 112]⟩] a + 1) = _
      rw [hwi]
      refine IntWalk.i64_in _ ?_
      unfold statV
      split
      · decide
      · split
        · decide
        · split <;> decide
    clear hwi
    generalize Lib.idxOfS ([⟨#[112, 97, 115, 115]⟩, ⟨#[102, 97, 105, 108]⟩, ⟨#[115, 107, 105, 112]⟩].take 3) a = ix at *
    obtain ⟨pc0, pc1, pc2⟩ := PC.out w4 HB24.out
    go_upto_region 5 with fail
    go_quiet ((go_at_call 49; with_reducible exact (HIX _).out))
    rename_i nq
    obtain ⟨w5, hw5⟩ : ∃ W, w4.drewN nq = W := ⟨_, rfl⟩
    have HB25 : Hid (Below w2.heap.size w2 w5) := by unfold Hid; rw [← hw5]; exact ⟨HB24.out.os, HB24.out.tape, HB24.out.output, HB24.out.size, HB24.out.block⟩
    have HB5 : Hid (Below w.heap.size w w5) := by unfold Hid; rw [← hw5]; exact ⟨HB4.out.os, HB4.out.tape, HB4.out.output, HB4.out.size, HB4.out.block⟩
    rw [hw5]
    clear hw5 HIX hwr pc0 pc1 pc2 HK4
    obtain ⟨pc0, pc1, pc2⟩ := PC.out w5 HB25.out
    have PA := Lib.hid (parts_any b m w5 (HMX.out w5 HB5.out))
    go_wp2_with fail
    refine PA.out.mono ?_
    rintro e w6 ⟨pv, pss, rfl, hb, _, _⟩
    have HB26 := Lib.hid (HB25.out.trans (hb.mono HB25.out.size))
    have HB6 := Lib.hid (HB5.out.trans (hb.mono HB5.out.size))
    clear hb PA pc0 pc1 pc2 HB24 HB25 HB4 HB5
    obtain ⟨pc0, pc1, pc2⟩ := PC.out w6 HB26.out
    have hs2 : w.heap.size < w2.heap.size := (Array.getElem?_eq_some_iff.1 HG2.out).1
    have HG : Hid (∀ W, Below w2.heap.size w2 W → W.heap[w.heap.size]? = some (.cells #[.string ⟨#[]⟩, .int .i64 0, .int .i64 0] 41 (0, 0))) := fun W hW => (hW.block _ hs2).trans HG2.out
    generalize hsv : statV a.data.toList = sv at *
    generalize hpf : partsF b.data.toList = pf at *
    by_cases h0 : sv = 0
    · have HX : Hid (oneF s.data.toList = (5, ([], 0, 0))) := by unfold Hid; rw [HON.out, if_pos (.inl h0)]
      have t1 : (((sv : Nat) : Int) == 0) = true := by rw [h0]; rfl
      have t1n : (sv == 0) = true := by rw [h0]; rfl
      have HGW := Lib.hid (HG.out w6 HB26.out)
      clear h0 HON hsv hpf HG
      as_aux_lemma =>
      go_wp2_with (refine wpList_store_row rfl 41 _ _ rfl w.heap.size rfl 41 _ HGW.out (.agg #[.string ⟨#[]⟩, .int .i64 0, .int .i64 0]) rfl (by kernel_rfl) rfl rfl ?_)
      intro w7 hw7
      have HW7 := Lib.hid hw7
      clear hw7
      go_wp2_with fail
      refine bodyPost_ret (results_row_tmp rfl _ _ w.heap.size 41 _ (0, 0) _ rfl HW7.out.at_ Tryz.underlying41 rfl (by kernel_rfl)) rfl ⟨⟨#[]⟩, by rw [HX.out]; rfl, by rw [HX.out], HB6.out.trans (HW7.out.below (Nat.le_refl _))⟩
    · have t1 : (((sv : Nat) : Int) == 0) = false := by rw [beq_eq_false_iff_ne]; omega
      have t1n : (sv == 0) = false := by rw [beq_eq_false_iff_ne]; exact h0
      by_cases h1 : pf = 0
      · have t2 : (((pf : Nat) : Int) != 0) = false := by rw [h1]; rfl
        have t2n : (pf != 0) = false := by rw [h1]; rfl
        have DG := Lib.hid (digits_any c w6)
        generalize hdg : digB c.data.toList = dg at *
        have H1 := Lib.hid h1
        clear h1
        cases dg with
        | false =>
          have HX : Hid (oneF s.data.toList = (5, ([], 0, 0))) := by unfold Hid; rw [HON.out, if_pos (.inr (.inr rfl))]
          clear h0 HON hsv hpf hdg
          as_aux_lemma =>
          go_wp2_with fail
          refine DG.out.mono ?_
          rintro e w7 ⟨rfl, hb⟩
          have HB7 := Lib.hid (HB6.out.trans (hb.mono HB6.out.size))
          have HGW := Lib.hid (HG.out w7 (HB26.out.trans (hb.mono HB26.out.size)))
          clear hb DG
          go_wp2_with (refine wpList_store_row rfl 41 _ _ rfl w.heap.size rfl 41 _ HGW.out (.agg #[.string ⟨#[]⟩, .int .i64 0, .int .i64 0]) rfl (by kernel_rfl) rfl rfl ?_)
          intro w8 hw8
          have HW8 := Lib.hid hw8
          clear hw8
          go_wp2_with fail
          refine bodyPost_ret (results_row_tmp rfl _ _ w.heap.size 41 _ (0, 0) _ rfl HW8.out.at_ Tryz.underlying41 rfl (by kernel_rfl)) rfl ⟨⟨#[]⟩, by rw [HX.out]; rfl, by rw [HX.out], HB7.out.trans (HW8.out.below (Nat.le_refl _))⟩
        | true =>
          have hat := atoi_dig hdg
          have HX0 : Hid (oneF s.data.toList = if 1125899906842624 < numV c.data.toList then (2, ([], 0, 0)) else (0, (b.data.toList, sv, numV c.data.toList))) := by
            unfold Hid
            rw [HON.out, if_neg (by rw [H1.out]; simp [h0])]
          clear h0 HON hsv hpf hdg
          generalize hnv : numV c.data.toList = nv at *
          have HNV := Lib.hid hnv
          clear hnv
          go_wp2_with fail
          refine DG.out.mono ?_
          rintro e w7 ⟨rfl, hb⟩
          have HB7 := Lib.hid (HB6.out.trans (hb.mono HB6.out.size))
          have HB27 := Lib.hid (HB26.out.trans (hb.mono HB26.out.size))
          clear hb DG HB6 HB26 pc0 pc1 pc2
          obtain ⟨pc0, pc1, pc2⟩ := PC.out w7 HB27.out
          by_cases hr : nv < 9223372036854775808
          · rw [if_pos hr] at hat
            have AT := Lib.hid (Tryz.strconv_Atoi_ok c (by omega) ((nv : Nat) : Int) hat w7)
            clear hat
            by_cases hbig : 1125899906842624 < nv
            · have HX : Hid (oneF s.data.toList = (2, ([], 0, 0))) := by unfold Hid; rw [HX0.out, if_pos hbig]
              have hbi : (1125899906842624 : Int) < ((nv : Nat) : Int) := by omega
              clear HX0
              as_aux_lemma =>
              go_wp2_with fail
              refine AT.out.mono ?_
              rintro e w8 ⟨rfl, hb0⟩
              have hb : Below w7.heap.size w7 w8 := by
                rcases hb0 with rfl | ⟨t, rfl⟩
                · exact Below.refl _ _
                · exact bytesWorld_below _ _ _
              have HB8 := Lib.hid (HB7.out.trans (hb.mono HB7.out.size))
              have HGW := Lib.hid (HG.out w8 (HB27.out.trans (hb.mono HB27.out.size)))
              clear hb hb0 AT
              go_wp2_with (refine wpList_store_row rfl 41 _ _ rfl w.heap.size rfl 41 _ HGW.out (.agg #[.string ⟨#[]⟩, .int .i64 0, .int .i64 0]) rfl (by kernel_rfl) rfl rfl ?_)
              intro w9 hw9
              have HW9 := Lib.hid hw9
              clear hw9
              go_wp2_with fail
              refine bodyPost_ret (results_row_tmp rfl _ _ w.heap.size 41 _ (0, 0) _ rfl HW9.out.at_ Tryz.underlying41 rfl (by kernel_rfl)) rfl ⟨⟨#[]⟩, by rw [HX.out]; rfl, by rw [HX.out], HB8.out.trans (HW9.out.below (Nat.le_refl _))⟩
            · have HX : Hid (oneF s.data.toList = (0, (b.data.toList, sv, nv))) := by unfold Hid; rw [HX0.out, if_neg hbig]
              have hbi : decide ((1125899906842624 : Int) < ((nv : Nat) : Int)) = false := decide_eq_false (by omega)
              have hbn : decide (1125899906842624 < nv) = false := decide_eq_false hbig
              clear HX0 hbig
              as_aux_lemma =>
              go_wp2_with fail
              refine AT.out.mono ?_
              rintro e w8 ⟨rfl, hb0⟩
              have hb : Below w7.heap.size w7 w8 := by
                rcases hb0 with rfl | ⟨t, rfl⟩
                · exact Below.refl _ _
                · exact bytesWorld_below _ _ _
              have HB8 := Lib.hid (HB7.out.trans (hb.mono HB7.out.size))
              have hb28 := HB27.out.trans (hb.mono HB27.out.size)
              have HGW := Lib.hid (HG.out w8 hb28)
              clear pc0 pc1 pc2
              obtain ⟨pc0, pc1, pc2⟩ := PC.out w8 hb28
              clear hb hb0 AT hb28
              go_wp2_with (refine wpList_store_row rfl 41 _ _ rfl w.heap.size rfl 41 _ HGW.out (.agg #[.string b, .int .i64 ((sv : Nat) : Int), .int .i64 ((nv : Nat) : Int)]) rfl (by kernel_rfl) rfl rfl ?_)
              intro w9 hw9
              have HW9 := Lib.hid hw9
              clear hw9
              go_wp2_with fail
              refine bodyPost_ret (results_row_tmp rfl _ _ w.heap.size 41 _ (0, 0) _ rfl HW9.out.at_ Tryz.underlying41 rfl (by kernel_rfl)) rfl ⟨b, by rw [HX.out]; rfl, by rw [HX.out], HB8.out.trans (HW9.out.below (Nat.le_refl _))⟩
          · rw [if_neg hr] at hat
            have AT := Lib.hid (Tryz.strconv_Atoi_range c (by omega) hat ev w7 (HVX.out w7 HB7.out) HEV.out)
            have HX : Hid (oneF s.data.toList = (2, ([], 0, 0))) := by unfold Hid; rw [HX0.out, if_pos (by omega)]
            clear hat HX0
            as_aux_lemma =>
            go_wp2_with fail
            refine AT.out.mono ?_
            rintro e w8 ⟨eb, rfl, _, _, hb⟩
            have HB8 := Lib.hid (HB7.out.trans (hb.mono HB7.out.size))
            have HGW := Lib.hid (HG.out w8 (HB27.out.trans (hb.mono HB27.out.size)))
            clear hb AT
            go_wp2_with (refine wpList_store_row rfl 41 _ _ rfl w.heap.size rfl 41 _ HGW.out (.agg #[.string ⟨#[]⟩, .int .i64 0, .int .i64 0]) rfl (by kernel_rfl) rfl rfl ?_)
            intro w9 hw9
            have HW9 := Lib.hid hw9
            clear hw9
            go_wp2_with fail
            refine bodyPost_ret (results_row_tmp rfl _ _ w.heap.size 41 _ (0, 0) _ rfl HW9.out.at_ Tryz.underlying41 rfl (by kernel_rfl)) rfl ⟨⟨#[]⟩, by rw [HX.out]; rfl, by rw [HX.out], HB8.out.trans (HW9.out.below (Nat.le_refl _))⟩
      · have HX : Hid (oneF s.data.toList = (5, ([], 0, 0))) := by unfold Hid; rw [HON.out, if_pos (.inr (.inl h1))]
        have t2 : (((pf : Nat) : Int) != 0) = true := by rw [bne_iff_ne]; omega
        have t2n : (pf != 0) = true := by rw [bne_iff_ne]; exact h1
        have HGW := Lib.hid (HG.out w6 HB26.out)
        clear h0 h1 HON hsv hpf HG
        as_aux_lemma =>
        go_wp2_with (refine wpList_store_row rfl 41 _ _ rfl w.heap.size rfl 41 _ HGW.out (.agg #[.string ⟨#[]⟩, .int .i64 0, .int .i64 0]) rfl (by kernel_rfl) rfl rfl ?_)
        intro w7 hw7
        have HW7 := Lib.hid hw7
        clear hw7
        go_wp2_with fail
        refine bodyPost_ret (results_row_tmp rfl _ _ w.heap.size 41 _ (0, 0) _ rfl HW7.out.at_ Tryz.underlying41 rfl (by kernel_rfl)) rfl ⟨⟨#[]⟩, by rw [HX.out]; rfl, by rw [HX.out], HB6.out.trans (HW7.out.below (Nat.le_refl _))⟩
  · have HON : Hid (oneF s.data.toList = (5, ([], 0, 0))) := one_len (by rw [← HPC.out, List.length_map, HLEN.out]; omega)
    have t1 : ((((n : Nat) : Int) + 1) != 3) = true := by rw [bne_iff_ne]; omega
    clear HPC HLEN HAT
    as_aux_lemma =>
    go_wp2_with (refine wpList_store_row rfl 41 _ _ rfl w.heap.size rfl 41 _ HG2.out (.agg #[.string ⟨#[]⟩, .int .i64 0, .int .i64 0]) rfl (by kernel_rfl) rfl rfl ?_)
    intro w3 hw3
    have HW3 := Lib.hid hw3
    clear hw3
    go_wp2_with fail
    refine bodyPost_ret (results_row_tmp rfl _ _ w.heap.size 41 _ (0, 0) _ rfl HW3.out.at_ Tryz.underlying41 rfl (by kernel_rfl)) rfl ⟨⟨#[]⟩, by rw [HON.out]; rfl, by rw [HON.out], HB2.out.trans (HW3.out.below (Nat.le_refl _))⟩
end Go.Proofs.YtngbjnjkcniabaaGreatDoor
