/- The walk over the law ValueMapsOrder. -/
import Derived.Test.YtbndgmbjfgmdnaaGreatDoorVl6m
import Derived.Test.YtbndgmbjfgmdnaaGreatDoorOwna
namespace Go.Proofs.YtbndgmbjfgmdnaaGreatDoor
open Go.RowKit Go.Deep

theorem order_open {L Q : List VR} (hq : Q.Perm L) {W w' : World} {e : Ending} (h : MapPost Q W e w') : ∃ a1 c1 a2 c2, e = .returned (.tuple #[.agg #[.int .i64 (mapF L).kind, .bool (mapF L).bool, .int .i64 (mapF L).int, .string (mapF L).str, .slice a1 (mapF L).list.length c1, .slice a2 (mapF L).keys.length c2], .int .i64 ((mapE Q : Nat) : Int)]) ∧ VAt w' (.agg #[.int .i64 (mapF L).kind, .bool (mapF L).bool, .int .i64 (mapF L).int, .string (mapF L).str, .slice a1 (mapF L).list.length c1, .slice a2 (mapF L).keys.length c2]) (mapF L) ∧ Below W.heap.size W w' := by
  obtain ⟨v, rfl, hv, hb⟩ := h
  rw [mapF_perm hq] at hv
  obtain ⟨a1, c1, a2, c2, rfl⟩ := hv.form
  exact ⟨a1, c1, a2, c2, rfl, hv, hb⟩
theorem ElemK.Row.drop {α : Type} {E : ElemK α} {B : Nat → Prop} {w : World} {L : List α} {bl off n cap : Nat} (h : E.Row B w L (.slice (some ⟨bl, off, none⟩) n cap)) {a : Nat} (ha : a < L.length) : E.Row B w (L.drop a) (.slice (some ⟨bl, off + a * E.sz, none⟩) (L.length - a) (cap - a)) := by
  rcases h with ⟨_, _, _, rfl⟩ | ⟨bl', off', cap', e, h2, h3, h4, h5⟩
  · simp at ha
  · injection e with e1 e2 e3
    injection e1 with e1
    injection e1 with e1 e4
    subst e1 e2 e3 e4
    refine .inr ⟨bl, off + a * E.sz, cap - a, by rw [List.length_drop], h2, h3, by rw [List.length_drop]; omega, fun k hk => ?_⟩
    rw [List.length_drop] at hk
    obtain ⟨cs, c1, c2⟩ := h5 (a + k) (by omega)
    refine ⟨cs, fun j u hu => ?_, by rw [List.getElem_drop]; exact c2⟩
    have := c1 j u hu
    rw [Nat.add_mul] at this
    rw [← this]
    congr 2
    omega
set_option maxRecDepth 100000 in
set_option maxHeartbeats 6400000 in
theorem mapsorder_law (L : List VR) (v : Value) (z : Int) (B : Nat → Prop) (w : World) (hp : Pow w) (hl : L.length ≤ 9223372036854775807) (hsz : ∀ x ∈ L, x.1.size ≤ 9223372036854775807) (hwf : ∀ x ∈ L, x.2.wf) (h : EVar.Row B w L v) : Calls Tryz.prog 8 #[v, .int .i64 z] w (LawPost w) := by
  obtain ⟨ao, cap, rfl⟩ := h.form
  have MM := fun (Q : List VR) (hq : Q.Perm L) (u : Value) (C : Nat → Prop) (W : World) (hr : EVar.Row C W Q u) => Lib.hid ((vmap_any Q u C (by rw [hq.length_eq]; exact hl) (fun x hx => hwf x (hq.mem_iff.1 hx)) (fun x hx => hsz x (hq.mem_iff.1 hx)) W hr).mono fun e w' hx => order_open hq hx)
  have MP0 := MM L (List.Perm.refl L) _ B w h
  have SM := fun (v u : Value) (W : World) (h1 : VAt W v (mapF L)) (h2 : VAt W u (mapF L)) => Lib.hid (same_any (mapF L) (mapF L) (mapF_wf L) (mapF_wf L) v u W h1 h2)
  rw [(sameV_iff (mapF L) (mapF L)).2 rfl] at SM
  have VC := fun (v : Value) (W : World) (h1 : VAt W v (mapF L)) => Lib.hid (valid_any v (mapF L) W h1 (mapF_wf L))
  rw [mapF_valid L] at VC
  have AW := fun W (hW : Below w.heap.size w W) => Lib.hid (awake_any W (hp.below hW))
  have hml := fun h => ((mapE_iff L).1 h).1
  have HME := Lib.hid (fun (Q : List VR) (hq : Q.Perm L) => (mapE_perm hq).2)
  generalize mapF L = t at *
  generalize t.kind = k at *
  generalize t.bool = b at *
  generalize t.int = n at *
  generalize t.str = s at *
  generalize t.list.length = ll at *
  generalize t.keys.length = kl at *
  have H := Lib.hid h
  have HMM := Lib.hid MM
  clear h hwf hsz hp MM
  generalize hme : mapE L = me at *
  go_enter Tryz.func8, Tryz.ntmps8
  go_wp2_with fail
  refine MP0.out.mono ?_
  rintro e w1 ⟨a1, c1, a2, c2, rfl, hv1, hb⟩
  have HB1 := Lib.hid hb
  obtain ⟨w2, hw2⟩ : ∃ w2, w1.alloc (.cells #[.int .i64 k, .bool b, .int .i64 n, .string s, .slice a1 ll c1, .slice a2 kl c2] 25 (0, 0)) = w2 := ⟨_, rfl⟩
  have hk2 : w2.heap[w1.heap.size]? = some (.cells #[.int .i64 k, .bool b, .int .i64 n, .string s, .slice a1 ll c1, .slice a2 kl c2] 25 (0, 0)) := by rw [← hw2]; exact hp_new rfl
  have hb2 : Below w1.heap.size w1 w2 := by rw [← hw2]; exact (Below.refl _ w1).alloc (Nat.le_refl _) _
  have HLT2 : Hid (w1.heap.size < w2.heap.size) := (Array.getElem?_eq_some_iff.1 hk2).1
  have HK2 := Lib.hid hk2
  have HW2 := Lib.hid hw2
  clear hw2 hk2
  have HB2 := Lib.hid (HB1.out.trans (hb2.mono HB1.out.size))
  have HV2 := Lib.hid (hv1.below hb2)
  clear hb hb2 hv1 MP0
  go_upto_region 2 with fail
  rw [HW2.out]
  clear HW2
  have AW2 := AW w2 HB2.out
  by_cases hv : me = 0
  · have t1 : ((me : Int) != 0) = false := by rw [hv]; rfl
    have t1b : ((me : Int) == 0) = true := by rw [hv]; rfl
    have hl24 := hml hv
    by_cases h0 : L.length = 0
    · have t2 : ((L.length : Int) == 0) = true := by rw [h0]; rfl
      clear hml hme hv
      as_aux_lemma =>
      go_wp2_with fail
      refine AW2.out.mono ?_
      rintro e w3 ⟨rfl, hb⟩
      have HB3 := Lib.hid (HB2.out.trans (hb.mono HB2.out.size))
      clear hb
      go_wp2_with fail
      go_ret
      exact ⟨rfl, HB3.out⟩
    · have t2 : ((L.length : Int) == 0) = false := by rw [beq_eq_false_iff_ne]; omega
      have t3 : ((L.length : Int) != 0) = true := by simp [bne, t2]
      have hpos : 0 < (L.length : Int) := by omega
      have hne : (L.length : Int) ≠ 0 := by omega
      obtain ⟨bl, off, _, rfl, _, hbl, _, _⟩ := H.out.at (k := 0) (by omega)
      have r1 := Int.lt_tmod_of_pos z hpos
      have r2 := Int.tmod_lt_of_pos z hpos
      have HQ0 : Hid (∀ Q : List VR, Q.Perm L → mapE Q = 0) := fun Q hq => HME.out Q hq hv
      clear hml hme hv AW2 HME
      by_cases hrn : Int.tmod z L.length < 0
      · obtain ⟨a, ha⟩ : ∃ a : Nat, Int.tmod z L.length + L.length = (a : Int) := ⟨(Int.tmod z L.length + L.length).toNat, by omega⟩
        have hal : a < L.length := by omega
        have hw : IntKind.i64.wrap (Int.tmod z L.length) = Int.tmod z L.length := IntWalk.i64_in _ (by omega)
        have hw2 : IntKind.i64.wrap (Int.tmod z L.length + L.length) = (a : Int) := by rw [IntWalk.i64_in _ (by omega)]; exact ha
        clear ha
        go_upto_region 7 with fail
        clear hw
        clear hw2
        clear hrn r1 r2
        have ha0 : (0 : Int) ≤ (a : Int) := by omega
        have hali : (a : Int) ≤ (L.length : Int) := by omega
        have hal2 : a ≤ L.length := by omega
        have hlc : L.length ≤ cap := by
          rcases H.out with ⟨_, _, e, _⟩ | ⟨_, _, _, e, _, _, h3, _⟩
          · injection e with _ e2 _; omega
          · injection e with _ _ e; omega
        have haci : (a : Int) ≤ (cap : Int) := by omega
        have hacn : a ≤ cap := by omega
        have HD := Lib.hid (((H.out.lt.mono (B' := fun b => b < w.heap.size) fun b hb => hb.2).drop hal).below HB2.out)
        have HT := Lib.hid (((H.out.lt.mono (B' := fun b => b < w.heap.size) fun b hb => hb.2).take (c2 := cap) hal2 hacn).below HB2.out)
        have HDL : Hid ((L.drop a).length = L.length - a) := List.length_drop
        have HTL : Hid ((L.take a).length = a) := by unfold Hid; rw [List.length_take]; omega
        have HPM : Hid ((L.drop a ++ L.take a).Perm L) := by unfold Hid; exact List.perm_append_comm.trans (by rw [List.take_append_drop])
        have HSM := HB2.out.size
        obtain ⟨iR, hiR, hzR, hnR, hyR⟩ := Tryz.vinfoVar'
        have HIR := Lib.hid hiR
        clear hiR
        have HT2 : Hid (EVar.Row (fun b => b < w.heap.size) w2 (L.take a) (.slice (some ⟨bl, off, none⟩) (L.take a).length cap)) := by unfold Hid; rw [HTL.out]; exact HT.out
        rw [← HDL.out] at HD
        clear HT
        as_aux_lemma =>
        go_wp2_with (at_builtin; refine wpList_own_all (E := EVar) (B := fun b => b < w.heap.size) rfl _ _ 35 rfl w2.heap.size 55 iR _ 104 Tryz.underlying35 HIR.out hzR hnR hyR rfl [] (.slice none 0 0) rfl .nil (L.drop a) _ _ (ElemK.Row.mono HD.out fun b hb => ⟨hb, by simp [Value.ownBlock]⟩) (by rw [HDL.out]; rfl) (by rw [HDL.out]; unfold maxLen; simp; omega) (by rw [HDL.out]; simp; omega) (Nat.le_refl _) ?_)
        intro l1 w3 ho1 hg1
        try rw [List.nil_append] at ho1
        have hb23 : Below w2.heap.size w2 w3 := below_grown hg1 (Nat.le_refl _) (fun q e => by simp [Value.ownBlock] at e)
        obtain ⟨lo1, lc1, e1⟩ := ho1.form
        rw [HDL.out] at e1
        subst e1
        have HO1 := Lib.hid ho1
        have HB23 := Lib.hid hb23
        have HT3 := Lib.hid (HT2.out.below hb23)
        have hsz3 := hb23.size
        clear ho1 hg1 hb23 HT2 HD
        as_aux_lemma =>
        go_wp2_with (at_builtin; refine wpList_own_all (E := EVar) (B := fun b => b < w.heap.size) rfl _ _ 35 rfl w2.heap.size 55 iR _ 104 Tryz.underlying35 HIR.out hzR hnR hyR rfl (L.drop a) (.slice lo1 (L.length - a) lc1) rfl HO1.out (L.take a) _ _ (ElemK.Row.mono HT3.out fun b hb => ⟨hb, fun e => by have := (HO1.out.low b e).1; omega⟩) (by rw [HTL.out]; rfl) (by rw [HTL.out, HDL.out]; unfold maxLen; omega) (by rw [HTL.out, HDL.out]; omega) (by omega) ?_)
        intro l2 w4 ho2 hg2
        have hb34 : Below w2.heap.size w3 w4 := below_grown hg2 hsz3 (fun q e => (HO1.out.low q e).1)
        obtain ⟨lo2, lc2, e2⟩ := ho2.form
        rw [HPM.out.length_eq] at e2
        subst e2
        have HB24 := Lib.hid (HB23.out.trans hb34)
        have HB4 := Lib.hid (HB2.out.trans (HB24.out.mono HSM))
        have CM := HMM.out _ HPM.out _ _ w4 (ho2.row (B' := fun _ => True) (fun _ _ => trivial) (fun _ _ => trivial))
        rw [HQ0.out _ HPM.out] at CM
        clear ho2 hg2 hb34 HO1 HT3 HB23 HMM HQ0
        as_aux_lemma =>
        go_wp2_with fail
        refine CM.out.mono ?_
        rintro e w5 ⟨a3, c3, a4, c4, rfl, hv5, hb⟩
        obtain ⟨w6, hw6⟩ : ∃ w6, w5.alloc (.cells #[.int .i64 k, .bool b, .int .i64 n, .string s, .slice a3 ll c3, .slice a4 kl c4] 25 (0, 0)) = w6 := ⟨_, rfl⟩
        have hk6 : w6.heap[w5.heap.size]? = some (.cells #[.int .i64 k, .bool b, .int .i64 n, .string s, .slice a3 ll c3, .slice a4 kl c4] 25 (0, 0)) := by rw [← hw6]; exact hp_new rfl
        have hb6 : Below w5.heap.size w5 w6 := by rw [← hw6]; exact (Below.refl _ w5).alloc (Nat.le_refl _) _
        have HLT6 : Hid (w5.heap.size < w6.heap.size) := (Array.getElem?_eq_some_iff.1 hk6).1
        have HK6 := Lib.hid hk6
        have HW6 := Lib.hid hw6
        clear hw6 hk6
        have HB46 := Lib.hid (hb.trans (hb6.mono hb.size))
        have HB26 := Lib.hid (HB24.out.trans (HB46.out.mono HB24.out.size))
        have HB6 := Lib.hid (HB4.out.trans (HB46.out.mono HB4.out.size))
        have HV6 := Lib.hid (hv5.below hb6)
        have hk2 := (HB26.out.block _ HLT2.out).trans HK2.out
        have x0 := cell_of_blk hk2 0
        have x1 := cell_of_blk hk2 1
        have x2 := cell_of_blk hk2 2
        have x3 := cell_of_blk hk2 3
        have x4 := cell_of_blk hk2 4
        have x5 := cell_of_blk hk2 5
        have y0 := cell_of_blk HK6.out 0
        have y1 := cell_of_blk HK6.out 1
        have y2 := cell_of_blk HK6.out 2
        have y3 := cell_of_blk HK6.out 3
        have y4 := cell_of_blk HK6.out 4
        have y5 := cell_of_blk HK6.out 5
        have CS := SM _ _ w6 (HV2.out.below HB26.out) HV6.out
        have HK26 := Lib.hid hk2
        have HL26 : Hid (w1.heap.size < w6.heap.size) := (Array.getElem?_eq_some_iff.1 hk2).1
        have HV26 := Lib.hid (HV2.out.below HB26.out)
        clear hb hb6 hv5 hk2 CM SM
        go_upto_region 11 with fail
        rw [HW6.out]
        clear HW6
        as_aux_lemma =>
        go_wp2_with fail
        refine CS.out.mono ?_
        rintro e w7 ⟨rfl, hb⟩
        have HB7 := Lib.hid (HB6.out.trans (hb.mono HB6.out.size))
        have CV := VC _ w7 (HV26.out.below hb)
        have hk7 := (hb.block _ HL26.out).trans HK26.out
        clear x0 x1 x2 x3 x4 x5
        have x0 := cell_of_blk hk7 0
        have x1 := cell_of_blk hk7 1
        have x2 := cell_of_blk hk7 2
        have x3 := cell_of_blk hk7 3
        have x4 := cell_of_blk hk7 4
        have x5 := cell_of_blk hk7 5
        clear hb hk7 CS VC y0 y1 y2 y3 y4 y5
        as_aux_lemma =>
        go_wp2_with fail
        refine CV.out.mono ?_
        rintro e w8 ⟨rfl, hb⟩
        have HB8 := Lib.hid (HB7.out.trans (hb.mono HB7.out.size))
        clear hb CV x0 x1 x2 x3 x4 x5
        go_wp2_with fail
        refine (AW w8 HB8.out).out.mono ?_
        rintro e w9 ⟨rfl, hb⟩
        have HB9 := Lib.hid (HB8.out.trans (hb.mono HB8.out.size))
        clear hb
        go_wp2_with fail
        go_ret
        exact ⟨rfl, HB9.out⟩
      · obtain ⟨a, ha⟩ : ∃ a : Nat, Int.tmod z L.length = (a : Int) := ⟨(Int.tmod z L.length).toNat, by omega⟩
        have hal : a < L.length := by omega
        have hw : IntKind.i64.wrap (Int.tmod z L.length) = Int.tmod z L.length := IntWalk.i64_in _ (by omega)
        have HA := Lib.hid ha
        clear ha
        go_upto_region 7 with fail
        clear hw
        rw [HA.out]
        rw [HA.out] at hrn r1 r2
        clear HA
        clear hrn r1 r2
        have ha0 : (0 : Int) ≤ (a : Int) := by omega
        have hali : (a : Int) ≤ (L.length : Int) := by omega
        have hal2 : a ≤ L.length := by omega
        have hlc : L.length ≤ cap := by
          rcases H.out with ⟨_, _, e, _⟩ | ⟨_, _, _, e, _, _, h3, _⟩
          · injection e with _ e2 _; omega
          · injection e with _ _ e; omega
        have haci : (a : Int) ≤ (cap : Int) := by omega
        have hacn : a ≤ cap := by omega
        have HD := Lib.hid (((H.out.lt.mono (B' := fun b => b < w.heap.size) fun b hb => hb.2).drop hal).below HB2.out)
        have HT := Lib.hid (((H.out.lt.mono (B' := fun b => b < w.heap.size) fun b hb => hb.2).take (c2 := cap) hal2 hacn).below HB2.out)
        have HDL : Hid ((L.drop a).length = L.length - a) := List.length_drop
        have HTL : Hid ((L.take a).length = a) := by unfold Hid; rw [List.length_take]; omega
        have HPM : Hid ((L.drop a ++ L.take a).Perm L) := by unfold Hid; exact List.perm_append_comm.trans (by rw [List.take_append_drop])
        have HSM := HB2.out.size
        obtain ⟨iR, hiR, hzR, hnR, hyR⟩ := Tryz.vinfoVar'
        have HIR := Lib.hid hiR
        clear hiR
        have HT2 : Hid (EVar.Row (fun b => b < w.heap.size) w2 (L.take a) (.slice (some ⟨bl, off, none⟩) (L.take a).length cap)) := by unfold Hid; rw [HTL.out]; exact HT.out
        rw [← HDL.out] at HD
        clear HT
        as_aux_lemma =>
        go_wp2_with (at_builtin; refine wpList_own_all (E := EVar) (B := fun b => b < w.heap.size) rfl _ _ 35 rfl w2.heap.size 55 iR _ 104 Tryz.underlying35 HIR.out hzR hnR hyR rfl [] (.slice none 0 0) rfl .nil (L.drop a) _ _ (ElemK.Row.mono HD.out fun b hb => ⟨hb, by simp [Value.ownBlock]⟩) (by rw [HDL.out]; rfl) (by rw [HDL.out]; unfold maxLen; simp; omega) (by rw [HDL.out]; simp; omega) (Nat.le_refl _) ?_)
        intro l1 w3 ho1 hg1
        try rw [List.nil_append] at ho1
        have hb23 : Below w2.heap.size w2 w3 := below_grown hg1 (Nat.le_refl _) (fun q e => by simp [Value.ownBlock] at e)
        obtain ⟨lo1, lc1, e1⟩ := ho1.form
        rw [HDL.out] at e1
        subst e1
        have HO1 := Lib.hid ho1
        have HB23 := Lib.hid hb23
        have HT3 := Lib.hid (HT2.out.below hb23)
        have hsz3 := hb23.size
        clear ho1 hg1 hb23 HT2 HD
        as_aux_lemma =>
        go_wp2_with (at_builtin; refine wpList_own_all (E := EVar) (B := fun b => b < w.heap.size) rfl _ _ 35 rfl w2.heap.size 55 iR _ 104 Tryz.underlying35 HIR.out hzR hnR hyR rfl (L.drop a) (.slice lo1 (L.length - a) lc1) rfl HO1.out (L.take a) _ _ (ElemK.Row.mono HT3.out fun b hb => ⟨hb, fun e => by have := (HO1.out.low b e).1; omega⟩) (by rw [HTL.out]; rfl) (by rw [HTL.out, HDL.out]; unfold maxLen; omega) (by rw [HTL.out, HDL.out]; omega) (by omega) ?_)
        intro l2 w4 ho2 hg2
        have hb34 : Below w2.heap.size w3 w4 := below_grown hg2 hsz3 (fun q e => (HO1.out.low q e).1)
        obtain ⟨lo2, lc2, e2⟩ := ho2.form
        rw [HPM.out.length_eq] at e2
        subst e2
        have HB24 := Lib.hid (HB23.out.trans hb34)
        have HB4 := Lib.hid (HB2.out.trans (HB24.out.mono HSM))
        have CM := HMM.out _ HPM.out _ _ w4 (ho2.row (B' := fun _ => True) (fun _ _ => trivial) (fun _ _ => trivial))
        rw [HQ0.out _ HPM.out] at CM
        clear ho2 hg2 hb34 HO1 HT3 HB23 HMM HQ0
        as_aux_lemma =>
        go_wp2_with fail
        refine CM.out.mono ?_
        rintro e w5 ⟨a3, c3, a4, c4, rfl, hv5, hb⟩
        obtain ⟨w6, hw6⟩ : ∃ w6, w5.alloc (.cells #[.int .i64 k, .bool b, .int .i64 n, .string s, .slice a3 ll c3, .slice a4 kl c4] 25 (0, 0)) = w6 := ⟨_, rfl⟩
        have hk6 : w6.heap[w5.heap.size]? = some (.cells #[.int .i64 k, .bool b, .int .i64 n, .string s, .slice a3 ll c3, .slice a4 kl c4] 25 (0, 0)) := by rw [← hw6]; exact hp_new rfl
        have hb6 : Below w5.heap.size w5 w6 := by rw [← hw6]; exact (Below.refl _ w5).alloc (Nat.le_refl _) _
        have HLT6 : Hid (w5.heap.size < w6.heap.size) := (Array.getElem?_eq_some_iff.1 hk6).1
        have HK6 := Lib.hid hk6
        have HW6 := Lib.hid hw6
        clear hw6 hk6
        have HB46 := Lib.hid (hb.trans (hb6.mono hb.size))
        have HB26 := Lib.hid (HB24.out.trans (HB46.out.mono HB24.out.size))
        have HB6 := Lib.hid (HB4.out.trans (HB46.out.mono HB4.out.size))
        have HV6 := Lib.hid (hv5.below hb6)
        have hk2 := (HB26.out.block _ HLT2.out).trans HK2.out
        have x0 := cell_of_blk hk2 0
        have x1 := cell_of_blk hk2 1
        have x2 := cell_of_blk hk2 2
        have x3 := cell_of_blk hk2 3
        have x4 := cell_of_blk hk2 4
        have x5 := cell_of_blk hk2 5
        have y0 := cell_of_blk HK6.out 0
        have y1 := cell_of_blk HK6.out 1
        have y2 := cell_of_blk HK6.out 2
        have y3 := cell_of_blk HK6.out 3
        have y4 := cell_of_blk HK6.out 4
        have y5 := cell_of_blk HK6.out 5
        have CS := SM _ _ w6 (HV2.out.below HB26.out) HV6.out
        have HK26 := Lib.hid hk2
        have HL26 : Hid (w1.heap.size < w6.heap.size) := (Array.getElem?_eq_some_iff.1 hk2).1
        have HV26 := Lib.hid (HV2.out.below HB26.out)
        clear hb hb6 hv5 hk2 CM SM
        go_upto_region 11 with fail
        rw [HW6.out]
        clear HW6
        as_aux_lemma =>
        go_wp2_with fail
        refine CS.out.mono ?_
        rintro e w7 ⟨rfl, hb⟩
        have HB7 := Lib.hid (HB6.out.trans (hb.mono HB6.out.size))
        have CV := VC _ w7 (HV26.out.below hb)
        have hk7 := (hb.block _ HL26.out).trans HK26.out
        clear x0 x1 x2 x3 x4 x5
        have x0 := cell_of_blk hk7 0
        have x1 := cell_of_blk hk7 1
        have x2 := cell_of_blk hk7 2
        have x3 := cell_of_blk hk7 3
        have x4 := cell_of_blk hk7 4
        have x5 := cell_of_blk hk7 5
        clear hb hk7 CS VC y0 y1 y2 y3 y4 y5
        as_aux_lemma =>
        go_wp2_with fail
        refine CV.out.mono ?_
        rintro e w8 ⟨rfl, hb⟩
        have HB8 := Lib.hid (HB7.out.trans (hb.mono HB7.out.size))
        clear hb CV x0 x1 x2 x3 x4 x5
        go_wp2_with fail
        refine (AW w8 HB8.out).out.mono ?_
        rintro e w9 ⟨rfl, hb⟩
        have HB9 := Lib.hid (HB8.out.trans (hb.mono HB8.out.size))
        clear hb
        go_wp2_with fail
        go_ret
        exact ⟨rfl, HB9.out⟩
  · have t1b : ((me : Int) == 0) = false := by rw [beq_eq_false_iff_ne]; omega
    have t1 : ((me : Int) != 0) = true := by simp [bne, t1b]
    clear hv
    as_aux_lemma =>
    go_wp2_with fail
    refine AW2.out.mono ?_
    rintro e w3 ⟨rfl, hb⟩
    have HB3 := Lib.hid (HB2.out.trans (hb.mono HB2.out.size))
    clear hb
    go_wp2_with fail
    go_ret
    exact ⟨rfl, HB3.out⟩
end Go.Proofs.YtbndgmbjfgmdnaaGreatDoor
