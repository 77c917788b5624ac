/- The walk over matrix.Matches. -/
import Derived.Test.YtomecnncighkgaaGreatDoorMw2
import Derived.Test.YtomecnncighkgaaGreatDoorVa5
import Derived.StillTailTactics
import Derived.BigQuiet
import Derived.Deep.RegionHeld3
namespace Go.Proofs.YtomecnncighkgaaGreatDoor
open Go.RowKit Go.Deep

def MtRel (V P : List VR) (w1 : World) (f : Nat) (t10 : Value) (wr : World) : Prop :=
  ∃ i : Nat, t10 = .int .i64 (i : Nat) ∧ i ≤ P.length ∧ f = P.length - i ∧ matF V P = matF V (P.drop i) ∧ Below w1.heap.size w1 wr
set_option maxRecDepth 100000 in
set_option maxHeartbeats 3200000 in
theorem matches_any (V P : List VR) (v u : Value) (B C : Nat → Prop) (hlV : V.length ≤ 9223372036854775807) (hlP : P.length ≤ 9223372036854775807) (hwV : ∀ x ∈ V, x.2.wf) (hwP : ∀ x ∈ P, x.2.wf) (w : World) (hV : EVar.Row B w V v) (hP : EVar.Row C w P u) :
    Calls Tryz.prog 15 #[v, u] w fun e w' => e = .returned (.bool (matF V P)) ∧ Below w.heap.size w w' := by
  obtain ⟨vo, vc, rfl⟩ := hV.form
  obtain ⟨uo, uc, rfl⟩ := hP.form
  have HV := Lib.hid hV
  have HP := Lib.hid hP
  have HWV := Lib.hid hwV
  have HWP := Lib.hid hwP
  have HE : Hid (matF V (P.drop P.length) = true) := mat_end V P
  clear hV hP hwV hwP
  go_enter Tryz.func15, Tryz.ntmps15
  go_wp2_with fail
  go_loopg [10] P.length (MtRel V P w)
  case atStart => exact ⟨0, rfl, Nat.zero_le _, rfl, by simp, Below.refl _ _⟩
  case round =>
    obtain ⟨i, rfl, hi, rfl, hk, hbel⟩ := hrel
    have HK := Lib.hid hk
    have HB := Lib.hid hbel
    clear hk hbel
    by_cases hlt : i < P.length
    · have hii : (i : Int) < (P.length : Int) := by omega
      obtain ⟨bp, op, cp, rfl, _, hbp, hcp, hRp⟩ := (HP.out.below HB.out).at hlt
      obtain ⟨a1, c1, a2, c2, rfl, hva⟩ := evar_seven hRp
      have e0 : wr.cell? ⟨bp, op + i * 7 + 0, none⟩ = _ := hcp 0 _ rfl
      have e1 : wr.cell? ⟨bp, op + i * 7 + 1, none⟩ = _ := hcp 1 _ rfl
      have e2 : wr.cell? ⟨bp, op + i * 7 + 2, none⟩ = _ := hcp 2 _ rfl
      have e3 : wr.cell? ⟨bp, op + i * 7 + 3, none⟩ = _ := hcp 3 _ rfl
      have e4 : wr.cell? ⟨bp, op + i * 7 + 4, none⟩ = _ := hcp 4 _ rfl
      have e5 : wr.cell? ⟨bp, op + i * 7 + 5, none⟩ = _ := hcp 5 _ rfl
      have e6 : wr.cell? ⟨bp, op + i * 7 + 6, none⟩ = _ := hcp 6 _ rfl
      rw [Nat.add_zero] at e0
      have hwx := HWP.out _ (List.getElem_mem hlt)
      have HS := Lib.hid (mat_step (V := V) hlt HK.out)
      have HN0 : fstI (fun y => y.1.toList == P[i].1.toList) V = none → hasF V P[i] = false := has_none
      have HN1 : ∀ j, fstI (fun y => y.1.toList == P[i].1.toList) V = some j → ∃ hj : j < V.length, hasF V P[i] = decide (cmpV V[j].2 P[i].2 = 0) := fun j => has_some
      clear hcp hRp HK
      generalize P[i] = x at *
      obtain ⟨W1, hW1⟩ : ∃ W1, wr.alloc (.cells #[.string x.1, .int .i64 x.2.kind, .bool x.2.bool, .int .i64 x.2.int, .string x.2.str, .slice a1 x.2.list.length c1, .slice a2 x.2.keys.length c2] 48 (0, 0)) = W1 := ⟨_, rfl⟩
      have hk1 : W1.heap[wr.heap.size]? = some (.cells #[.string x.1, .int .i64 x.2.kind, .bool x.2.bool, .int .i64 x.2.int, .string x.2.str, .slice a1 x.2.list.length c1, .slice a2 x.2.keys.length c2] 48 (0, 0)) := by rw [← hW1]; exact hp_new rfl
      have hb1 : Below wr.heap.size wr W1 := by rw [← hW1]; exact (Below.refl _ wr).alloc (Nat.le_refl _) _
      have HLT : Hid (wr.heap.size < W1.heap.size) := (Array.getElem?_eq_some_iff.1 hk1).1
      have HBX : Hid (∀ W', Below W1.heap.size W1 W' → W'.cell? ⟨wr.heap.size, 0, none⟩ = some (.string x.1) ∧ W'.cell? ⟨wr.heap.size, 1, none⟩ = some (.int .i64 x.2.kind) ∧ W'.cell? ⟨wr.heap.size, 2, none⟩ = some (.bool x.2.bool) ∧ W'.cell? ⟨wr.heap.size, 3, none⟩ = some (.int .i64 x.2.int) ∧ W'.cell? ⟨wr.heap.size, 4, none⟩ = some (.string x.2.str) ∧ W'.cell? ⟨wr.heap.size, 5, none⟩ = some (.slice a1 x.2.list.length c1) ∧ W'.cell? ⟨wr.heap.size, 6, none⟩ = some (.slice a2 x.2.keys.length c2)) := fun W' hb => by
        have q := (hb.block _ HLT.out).trans hk1
        exact ⟨cell_of_blk q 0, cell_of_blk q 1, cell_of_blk q 2, cell_of_blk q 3, cell_of_blk q 4, cell_of_blk q 5, cell_of_blk q 6⟩
      have HB1 := Lib.hid (HB.out.trans (hb1.mono HB.out.size))
      have HVA := Lib.hid (hva.below hb1)
      have IX : Hid (Calls Tryz.prog 43 #[.slice vo V.length vc, .func (.func 44) #[] #[.pointer (some ⟨wr.heap.size, 0, none⟩)]] W1 fun e w' => e = .returned (.int .i64 (idxI (fstI (fun y => y.1.toList == x.1.toList) V))) ∧ Below W1.heap.size W1 w') :=
        vindexf_any 44 #[.pointer (some ⟨wr.heap.size, 0, none⟩)] (fun y => y.1.toList == x.1.toList) V _ B hlV W1 (HV.out.below HB1.out) (fun k hk cs W' hW' hR => by
          obtain ⟨lo, lc, ko, kc, rfl, _⟩ := evar_seven hR
          exact matches1_any x.1 _ _ _ _ _ _ _ _ _ _ _ _ W' (HBX.out W' hW').1) matches1Enters
      clear hk1 hb1 hva
      as_aux_lemma =>
      go_wp2_with fail
      refine IX.out.mono ?_
      clear hW1
      rintro e w3 ⟨rfl, hb3⟩
      have HB13 := Lib.hid hb3
      have HB3 := Lib.hid (HB1.out.trans (hb3.mono HB1.out.size))
      clear hb3 IX e0 e1 e2 e3 e4 e5 e6
      cases hfi : fstI (fun y => y.1.toList == x.1.toList) V with
      | none =>
        have HN := Lib.hid (HS.out.1 (HN0 hfi))
        clear HN0 HN1 HS hfi
        have hjq : idxI none = -1 := rfl
        rw [hjq]
        clear hjq
        go_wp2_with fail
        go_quiet (fail)
        go_wp2_with fail
        go_ret
        exact ⟨by rw [HN.out] <;> rfl, HB3.out.trans ((below_drN w3 _).mono HB3.out.size)⟩
      | some j =>
        obtain ⟨hj, hhas⟩ := HN1 j hfi
        have HS2 := HS.out
        rw [hhas] at HS2
        have HS2 := Lib.hid HS2
        clear HN0 HN1 HS hfi hhas
        have hjj : (j : Int) < (V.length : Int) := by omega
        have tn : decide ((j : Int) < 0) = false := decide_eq_false (by omega)
        have tnb : ¬ (j : Int) < 0 := by omega
        obtain ⟨bv, ov, cv, rfl, _, hbv, hcv, hRv⟩ := (HV.out.below HB3.out).at hj
        obtain ⟨a3, c3, a4, c4, rfl, hvb⟩ := evar_seven hRv
        have hwy := HWV.out _ (List.getElem_mem hj)
        have EQ : Hid (∀ W', Below w3.heap.size w3 W' → Calls Tryz.prog 45 #[.agg #[.int .i64 V[j].2.kind, .bool V[j].2.bool, .int .i64 V[j].2.int, .string V[j].2.str, .slice a3 V[j].2.list.length c3, .slice a4 V[j].2.keys.length c4], .agg #[.int .i64 x.2.kind, .bool x.2.bool, .int .i64 x.2.int, .string x.2.str, .slice a1 x.2.list.length c1, .slice a2 x.2.keys.length c2]] W' fun e w' => e = .returned (.bool (decide (cmpV V[j].2 x.2 = 0))) ∧ Below W'.heap.size W' w') := fun W' hb => equal_any _ _ hwy hwx _ _ W' (hvb.at_.below hb) ((HVA.out.below HB13.out).at_.below hb)
        have q1 : w3.cell? ⟨bv, ov + j * 7 + 1, none⟩ = _ := hcv 1 _ rfl
        have q2 : w3.cell? ⟨bv, ov + j * 7 + 2, none⟩ = _ := hcv 2 _ rfl
        have q3 : w3.cell? ⟨bv, ov + j * 7 + 3, none⟩ = _ := hcv 3 _ rfl
        have q4 : w3.cell? ⟨bv, ov + j * 7 + 4, none⟩ = _ := hcv 4 _ rfl
        have q5 : w3.cell? ⟨bv, ov + j * 7 + 5, none⟩ = _ := hcv 5 _ rfl
        have q6 : w3.cell? ⟨bv, ov + j * 7 + 6, none⟩ = _ := hcv 6 _ rfl
        obtain ⟨p0, p1, p2, p3, p4, p5, p6⟩ := HBX.out w3 HB13.out
        clear hcv hRv hvb hwy hwx HBX HVA
        generalize V[j] = y at *
        generalize decide (cmpV y.2 x.2 = 0) = d at *
        have HB3D : Hid (Below w3.heap.size w3 w3.drew) := (Below.refl _ w3).drew
        have hjq : idxI (some j) = ((j : Nat) : Int) := rfl
        rw [hjq]
        clear hjq
        as_aux_lemma =>
        go_upto_region 5 with fail
        go_still_tail 10, (by kernel_rfl)
        change wpList _ _ _ _ _ (World.drew _)
        go_wp2_with fail
        refine (EQ.out _ HB3D.out).mono ?_
        rintro e w5 ⟨rfl, hb5⟩
        have HB5 := Lib.hid (HB3.out.trans ((HB3D.out.trans (hb5.mono HB3D.out.size)).mono HB3.out.size))
        clear hb5 EQ q1 q2 q3 q4 q5 q6 p0 p1 p2 p3 p4 p5 p6
        cases d with
        | true =>
          have HN := Lib.hid (HS2.out.2 rfl)
          clear HS2
          go_wp2_with fail
          go_roundg (P.length - (i + 1))
          case measure => omega
          case rel => exact ⟨i + 1, by go_num, by omega, rfl, HN.out, HB5.out⟩
        | false =>
          have HN := Lib.hid (HS2.out.1 rfl)
          clear HS2
          go_wp2_with fail
          go_ret
          exact ⟨by rw [HN.out] <;> rfl, HB5.out⟩
    · have hii : ¬ (i : Int) < (P.length : Int) := by omega
      have he : i = P.length := by omega
      have HN : Hid (matF V P = true) := by unfold Hid; rw [HK.out, he]; exact HE.out
      clear HK he HE
      as_aux_lemma =>
      go_wp2_with fail
      go_ret
      exact ⟨by rw [HN.out] <;> rfl, HB.out⟩
set_option maxRecDepth 100000 in
set_option maxHeartbeats 1600000 in
theorem agree_any (V P : List VR) (v u : Value) (B C : Nat → Prop) (hlV : V.length ≤ 9223372036854775807) (hlP : P.length ≤ 9223372036854775807) (hwV : ∀ x ∈ V, x.2.wf) (hwP : ∀ x ∈ P, x.2.wf) (w : World) (hV : EVar.Row B w V v) (hP : EVar.Row C w P u) :
    Calls Tryz.prog 50 #[v, u] w fun e w' => e = .returned (.bool (agrF V P)) ∧ Below w.heap.size w w' := by
  have C1 := Lib.hid (matches_any V P v u B C hlV hlP hwV hwP w hV hP)
  have C2 : Hid (∀ W', Below w.heap.size w W' → Calls Tryz.prog 15 #[u, v] W' fun e w' => e = .returned (.bool (matF P V)) ∧ Below W'.heap.size W' w') := fun W' hb => matches_any P V u v C B hlP hlV hwP hwV W' (hP.below hb) (hV.below hb)
  have HA : Hid (agrF V P = (matF V P && matF P V)) := rfl
  obtain ⟨vo, vc, rfl⟩ := hV.form
  obtain ⟨uo, uc, rfl⟩ := hP.form
  clear hV hP hwV hwP
  generalize agrF V P = r at *
  generalize matF V P = a at *
  generalize matF P V = b at *
  go_enter Tryz.func50, Tryz.ntmps50
  go_wp2_with fail
  refine C1.out.mono ?_
  rintro e w3 ⟨rfl, hb3⟩
  have HB3 := Lib.hid hb3
  have C3 := Lib.hid (C2.out w3 hb3)
  clear hb3 C1 C2
  cases a with
  | false =>
    have HN : Hid (r = false) := by unfold Hid; rw [HA.out]; rfl
    clear HA C3
    go_wp2_with fail
    go_ret
    exact ⟨by rw [HN.out] <;> rfl, HB3.out⟩
  | true =>
    have HN : Hid (r = b) := by unfold Hid; rw [HA.out]; rfl
    clear HA
    go_wp2_with fail
    refine C3.out.mono ?_
    rintro e w5 ⟨rfl, hb5⟩
    have HB5 := Lib.hid (HB3.out.trans (hb5.mono HB3.out.size))
    clear hb5 C3
    go_wp2_with fail
    go_ret
    exact ⟨by rw [HN.out] <;> rfl, HB5.out⟩
end Go.Proofs.YtomecnncighkgaaGreatDoor
/- The walks over matrix.proper and matrix.checkAxis. -/
namespace Go.Proofs.YtomecnncighkgaaGreatDoor
open Go.RowKit Go.Deep

def PrRel (L : List VR) (r : Nat) (w1 : World) (f : Nat) (t8 : Value) (wr : World) : Prop :=
  ∃ i : Nat, t8 = .int .i64 (i : Nat) ∧ i ≤ L.length ∧ f = L.length - i ∧ r = propTo (L.take i) (L.drop i) ∧ Below w1.heap.size w1 wr
set_option maxRecDepth 100000 in
set_option maxHeartbeats 3200000 in
theorem proper_any (L : List VR) (v : Value) (B : Nat → Prop) (hl : L.length ≤ 9223372036854775807) (hwf : ∀ x ∈ L, x.2.wf) (w : World) (h : EVar.Row B w L v) :
    Calls Tryz.prog 39 #[v] w fun e w' => e = .returned (.int .i64 (propF L : Nat)) ∧ Below w.heap.size w w' := by
  obtain ⟨ao, cap, rfl⟩ := h.form
  have HL := Lib.hid h
  have HW := Lib.hid hwf
  have HR : Hid (∀ i (hi : i < L.length), propF L = propTo (L.take i) (L.drop i) → (keyOk L[i].1 = false → propF L = 1) ∧ (keyOk L[i].1 = true → (scalF L[i].2 ≠ 0 → propF L = scalF L[i].2) ∧ (scalF L[i].2 = 0 → ((L.take i).any (fun y => y.1.toList == L[i].1.toList) = true → propF L = 7) ∧ ((L.take i).any (fun y => y.1.toList == L[i].1.toList) = false → propF L = propTo (L.take (i + 1)) (L.drop (i + 1)))))) := fun i hi h => prop_round hi h
  have H0 : propF L = propTo (L.take 0) (L.drop 0) := rfl
  clear h hwf
  generalize propF L = r at *
  have HZ := Lib.hid H0
  clear H0
  go_enter Tryz.func39, Tryz.ntmps39
  go_wp2_with fail
  go_loopg [8] L.length (PrRel L r w)
  case atStart => exact ⟨0, rfl, Nat.zero_le _, rfl, HZ.out, Below.refl _ _⟩
  case round =>
    obtain ⟨i, rfl, hi, rfl, hk, hbel⟩ := hrel
    have HB := Lib.hid hbel
    have HK := Lib.hid hk
    clear hbel hk
    by_cases hlt : i < L.length
    · have hii : (i : Int) < (L.length : Int) := by omega
      have hrow := HL.out.below HB.out
      have hicap := row_cap hrow hlt
      have hcc : (i : Int) ≤ (cap : Int) := by omega
      obtain ⟨bl, off, ce, rfl, _, hbl, hce, hvc⟩ := hrow.at hlt
      obtain ⟨a1, c1, a2, c2, rfl, hva⟩ := evar_seven hvc
      have e0 : wr.cell? ⟨bl, off + i * 7 + 0, none⟩ = _ := hce 0 _ rfl
      have e1 : wr.cell? ⟨bl, off + i * 7 + 1, none⟩ = _ := hce 1 _ rfl
      have e2 : wr.cell? ⟨bl, off + i * 7 + 2, none⟩ = _ := hce 2 _ rfl
      have e3 : wr.cell? ⟨bl, off + i * 7 + 3, none⟩ = _ := hce 3 _ rfl
      have e4 : wr.cell? ⟨bl, off + i * 7 + 4, none⟩ = _ := hce 4 _ rfl
      have e5 : wr.cell? ⟨bl, off + i * 7 + 5, none⟩ = _ := hce 5 _ rfl
      have e6 : wr.cell? ⟨bl, off + i * 7 + 6, none⟩ = _ := hce 6 _ rfl
      rw [Nat.add_zero] at e0
      have hwx := HW.out _ (List.getElem_mem hlt)
      have hrt := hrow.take (c2 := cap) (Nat.le_of_lt hlt) hicap
      have hlti : (L.take i).length ≤ 9223372036854775807 := by rw [List.length_take]; omega
      have HS := Lib.hid (HR.out i hlt HK.out)
      clear hce hvc hrow HK HR
      generalize L[i] = x at *
      obtain ⟨W1, hW1⟩ : ∃ W1, wr.alloc (.cells #[.string x.1, .int .i64 x.2.kind, .bool x.2.bool, .int .i64 x.2.int, .string x.2.str, .slice a1 x.2.list.length c1, .slice a2 x.2.keys.length c2] 48 (0, 0)) = W1 := ⟨_, rfl⟩
      have hk1 : W1.heap[wr.heap.size]? = some (.cells #[.string x.1, .int .i64 x.2.kind, .bool x.2.bool, .int .i64 x.2.int, .string x.2.str, .slice a1 x.2.list.length c1, .slice a2 x.2.keys.length c2] 48 (0, 0)) := by rw [← hW1]; exact hp_new rfl
      have hb1 : Below wr.heap.size wr W1 := by rw [← hW1]; exact (Below.refl _ wr).alloc (Nat.le_refl _) _
      have HLT : Hid (wr.heap.size < W1.heap.size) := (Array.getElem?_eq_some_iff.1 hk1).1
      have HK1 := Lib.hid hk1
      have HBX : Hid (∀ W', Below W1.heap.size W1 W' → W'.cell? ⟨wr.heap.size, 0, none⟩ = some (.string x.1) ∧ W'.cell? ⟨wr.heap.size, 1, none⟩ = some (.int .i64 x.2.kind) ∧ W'.cell? ⟨wr.heap.size, 2, none⟩ = some (.bool x.2.bool) ∧ W'.cell? ⟨wr.heap.size, 3, none⟩ = some (.int .i64 x.2.int) ∧ W'.cell? ⟨wr.heap.size, 4, none⟩ = some (.string x.2.str) ∧ W'.cell? ⟨wr.heap.size, 5, none⟩ = some (.slice a1 x.2.list.length c1) ∧ W'.cell? ⟨wr.heap.size, 6, none⟩ = some (.slice a2 x.2.keys.length c2)) := fun W' hb => by
        have q := (hb.block _ HLT.out).trans HK1.out
        exact ⟨cell_of_blk q 0, cell_of_blk q 1, cell_of_blk q 2, cell_of_blk q 3, cell_of_blk q 4, cell_of_blk q 5, cell_of_blk q 6⟩
      have CF : Hid (∀ W, Below W1.heap.size W1 W → Calls Tryz.prog 68 #[.slice (some ⟨bl, off, none⟩) i cap, .func (.func 69) #[] #[.pointer (some ⟨wr.heap.size, 0, none⟩)]] W fun e w' => e = .returned (.bool ((L.take i).any (fun y => y.1.toList == x.1.toList))) ∧ Below W.heap.size W w') := fun W hW =>
        vcontf_any 69 #[.pointer (some ⟨wr.heap.size, 0, none⟩)] (fun y => y.1.toList == x.1.toList) (L.take i) (.slice (some ⟨bl, off, none⟩) i cap) B hlti W (hrt.below (hb1.trans (hW.mono hb1.size))) (fun k hk cs W' hW' hR => by
          obtain ⟨lo, lc, ko, kc, rfl, _⟩ := evar_seven hR
          exact proper1_any x.1 _ _ _ _ _ _ _ _ _ _ _ _ W' (HBX.out W' (hW.trans (hW'.mono hW.size))).1) proper1Enters
      have SC := Lib.hid (scalar_any _ x.2 W1 (hva.below hb1).at_ hwx)
      have NM := Lib.hid (named_any x.1 W1)
      have HB1 := Lib.hid (HB.out.trans (hb1.mono HB.out.size))
      obtain ⟨p0, p1, p2, p3, p4, p5, p6⟩ := HBX.out W1 (Below.refl _ _)
      clear hk1 hb1 hva hwx hrt hlti HLT HK1
      generalize scalF x.2 = se at *
      generalize keyOk x.1 = kk at *
      generalize (L.take i).any (fun y => y.1.toList == x.1.toList) = dd at *
      as_aux_lemma =>
      go_wp2_with fail
      refine NM.out.mono ?_
      rintro e w3 ⟨rfl, rfl⟩
      clear NM
      cases kk with
      | false =>
        have HN := Lib.hid (HS.out.1 rfl)
        clear HS SC CF HBX
        as_aux_lemma =>
        go_wp2_with fail
        go_ret
        exact ⟨by rw [HN.out] <;> rfl, HB1.out⟩
      | true =>
        have HS2 := Lib.hid (HS.out.2 rfl)
        clear HS
        as_aux_lemma =>
        go_wp2_with fail
        refine SC.out.mono ?_
        rintro e w3 ⟨rfl, hb3⟩
        have HB3 := Lib.hid (HB1.out.trans (hb3.mono HB1.out.size))
        have CF3 := Lib.hid (CF.out w3 hb3)
        clear SC CF HBX hb3 hW1 e0 e1 e2 e3 e4 e5 e6 p0 p1 p2 p3 p4 p5 p6
        by_cases hv : se = 0
        · have t3b : ((se : Int) == 0) = true := by rw [hv]; rfl
          have t3 : ((se : Int) != 0) = false := by rw [hv]; rfl
          have HS3 := Lib.hid (HS2.out.2 hv)
          clear HS2 hv
          go_wp2_with fail
          refine CF3.out.mono ?_
          rintro e w5 ⟨rfl, hb5⟩
          have HB5 := Lib.hid (HB3.out.trans (hb5.mono HB3.out.size))
          clear CF3 hb5
          cases dd with
          | true =>
            have HN := Lib.hid (HS3.out.1 rfl)
            clear HS3
            go_wp2_with fail
            go_ret
            exact ⟨by rw [HN.out] <;> rfl, HB5.out⟩
          | false =>
            have HN := Lib.hid (HS3.out.2 rfl)
            clear HS3
            go_wp2_with fail
            go_roundg (L.length - (i + 1))
            case measure => omega
            case rel => exact ⟨i + 1, by go_num, by omega, rfl, HN.out, HB5.out⟩
        · have t3b : ((se : Int) == 0) = false := by rw [beq_eq_false_iff_ne]; omega
          have t3 : ((se : Int) != 0) = true := by simp [bne, t3b]
          have HN := Lib.hid (HS2.out.1 hv)
          clear HS2 hv CF3
          go_wp2_with fail
          go_ret
          exact ⟨by rw [HN.out] <;> rfl, HB3.out⟩
    · have hii : ¬ (i : Int) < (L.length : Int) := by omega
      have he : i = L.length := by omega
      have HN : Hid (r = 0) := by unfold Hid; rw [HK.out, he, List.drop_length]; rfl
      clear HK he HR
      as_aux_lemma =>
      go_wp2_with fail
      go_ret
      exact ⟨by rw [HN.out] <;> rfl, HB.out⟩
def CaRel (L : List VT) (r : Nat) (w1 : World) (f : Nat) (t11 : Value) (wr : World) : Prop :=
  ∃ i : Nat, t11 = .int .i64 (i : Nat) ∧ i ≤ L.length ∧ f = L.length - i ∧ r = valsTo (L.take i) (L.drop i) ∧ Below w1.heap.size w1 wr
set_option maxRecDepth 100000 in
set_option maxHeartbeats 3200000 in
theorem axis_any (L : List VT) (v : Value) (B : Nat → Prop) (hl : L.length ≤ 9223372036854775807) (hwf : ∀ x ∈ L, x.wf) (w : World) (h : EVal.Row B w L v) :
    Calls Tryz.prog 38 #[v] w fun e w' => e = .returned (.int .i64 (valsF L : Nat)) ∧ Below w.heap.size w w' := by
  obtain ⟨ao, cap, rfl⟩ := h.form
  have HL := Lib.hid h
  have HW := Lib.hid hwf
  clear h hwf
  by_cases hbig : 1024 < L.length
  · have HN : Hid (valsF L = 3) := if_pos hbig
    have t1 : (1024 : Int) < (L.length : Int) := by omega
    generalize valsF L = r at *
    clear HL HW hbig
    as_aux_lemma =>
    go_enter Tryz.func38, Tryz.ntmps38
    go_wp2_with fail
    go_ret
    exact ⟨by rw [HN.out] <;> rfl, Below.refl _ _⟩
  have HZ : Hid (valsF L = valsTo (L.take 0) (L.drop 0)) := if_neg hbig
  have t1 : decide ((1024 : Int) < (L.length : Int)) = false := decide_eq_false (by omega)
  have t1b : ¬ (1024 : Int) < (L.length : Int) := by omega
  have HR : Hid (∀ i r (hi : i < L.length), r = valsTo (L.take i) (L.drop i) → (scalF L[i] ≠ 0 → r = scalF L[i]) ∧ (scalF L[i] = 0 → ((L.take i).any (fun y => decide (cmpV L[i] y = 0)) = true → r = 7) ∧ ((L.take i).any (fun y => decide (cmpV L[i] y = 0)) = false → r = valsTo (L.take (i + 1)) (L.drop (i + 1))))) := fun i r hi h => vals_round hi h
  generalize valsF L = r at *
  go_enter Tryz.func38, Tryz.ntmps38
  go_wp2_with fail
  go_loopg [11] L.length (CaRel L r w)
  case atStart => exact ⟨0, rfl, Nat.zero_le _, rfl, HZ.out, Below.refl _ _⟩
  case round =>
    obtain ⟨i, rfl, hi, rfl, hk, hbel⟩ := hrel
    have HB := Lib.hid hbel
    have HK := Lib.hid hk
    clear hbel hk
    by_cases hlt : i < L.length
    · have hii : (i : Int) < (L.length : Int) := by omega
      have hrow := HL.out.below HB.out
      have hicap := row_cap hrow hlt
      have hcc : (i : Int) ≤ (cap : Int) := by omega
      obtain ⟨bl, off, ce, rfl, _, hbl, hce, hvc⟩ := hrow.at hlt
      have hwx := HW.out _ (List.getElem_mem hlt)
      have hva : VAtB B wr (.agg ce.toArray) L[i] := ⟨_, rfl, hvc⟩
      obtain ⟨a1, c1, a2, c2, rfl⟩ := vcellB_slices hvc
      have e0 : wr.cell? ⟨bl, off + i * 6 + 0, none⟩ = _ := hce 0 _ rfl
      have e1 : wr.cell? ⟨bl, off + i * 6 + 1, none⟩ = _ := hce 1 _ rfl
      have e2 : wr.cell? ⟨bl, off + i * 6 + 2, none⟩ = _ := hce 2 _ rfl
      have e3 : wr.cell? ⟨bl, off + i * 6 + 3, none⟩ = _ := hce 3 _ rfl
      have e4 : wr.cell? ⟨bl, off + i * 6 + 4, none⟩ = _ := hce 4 _ rfl
      have e5 : wr.cell? ⟨bl, off + i * 6 + 5, none⟩ = _ := hce 5 _ rfl
      rw [Nat.add_zero] at e0
      have hrt := hrow.take (c2 := cap) (Nat.le_of_lt hlt) hicap
      have hlti : (L.take i).length ≤ 9223372036854775807 := by rw [List.length_take]; omega
      have HS := Lib.hid (HR.out i r hlt HK.out)
      have hwt : ∀ k (hk : k < (L.take i).length), (L.take i)[k].wf := fun k hk => HW.out _ (List.mem_of_mem_take (List.getElem_mem hk))
      clear hce hvc hrow HK HR
      generalize L[i] = x at *
      obtain ⟨W1, hW1⟩ : ∃ W1, wr.alloc (.cells #[.int .i64 x.kind, .bool x.bool, .int .i64 x.int, .string x.str, .slice a1 x.list.length c1, .slice a2 x.keys.length c2] 46 (0, 0)) = W1 := ⟨_, rfl⟩
      have hk1 : W1.heap[wr.heap.size]? = some (.cells #[.int .i64 x.kind, .bool x.bool, .int .i64 x.int, .string x.str, .slice a1 x.list.length c1, .slice a2 x.keys.length c2] 46 (0, 0)) := by rw [← hW1]; exact hp_new rfl
      have hb1 : Below wr.heap.size wr W1 := by rw [← hW1]; exact (Below.refl _ wr).alloc (Nat.le_refl _) _
      have HLT : Hid (wr.heap.size < W1.heap.size) := (Array.getElem?_eq_some_iff.1 hk1).1
      have HK1 := Lib.hid hk1
      have HBX : Hid (∀ W', Below W1.heap.size W1 W' → W'.cell? ⟨wr.heap.size, 0, none⟩ = some (.int .i64 x.kind) ∧ W'.cell? ⟨wr.heap.size, 1, none⟩ = some (.bool x.bool) ∧ W'.cell? ⟨wr.heap.size, 2, none⟩ = some (.int .i64 x.int) ∧ W'.cell? ⟨wr.heap.size, 3, none⟩ = some (.string x.str) ∧ W'.cell? ⟨wr.heap.size, 4, none⟩ = some (.slice a1 x.list.length c1) ∧ W'.cell? ⟨wr.heap.size, 5, none⟩ = some (.slice a2 x.keys.length c2)) := fun W' hb => by
        have q := (hb.block _ HLT.out).trans HK1.out
        exact ⟨cell_of_blk q 0, cell_of_blk q 1, cell_of_blk q 2, cell_of_blk q 3, cell_of_blk q 4, cell_of_blk q 5⟩
      have HVA := Lib.hid (hva.below hb1)
      have CF : Hid (∀ W, Below W1.heap.size W1 W → Calls Tryz.prog 66 #[.slice (some ⟨bl, off, none⟩) i cap, .func (.func 67) #[] #[.pointer (some ⟨wr.heap.size, 0, none⟩)]] W fun e w' => e = .returned (.bool ((L.take i).any (fun y => decide (cmpV x y = 0)))) ∧ Below W.heap.size W w') := fun W hW =>
        tcontf_any 67 #[.pointer (some ⟨wr.heap.size, 0, none⟩)] (fun y => decide (cmpV x y = 0)) (L.take i) (.slice (some ⟨bl, off, none⟩) i cap) B hlti W (hrt.below (hb1.trans (hW.mono hb1.size))) (fun k hk cs W' hW' hR =>
          axis1_any x _ hwx (hwt k hk) _ _ _ W' (((hW.trans (hW'.mono hW.size)).block _ HLT.out).trans HK1.out) (HVA.out.below (hW.trans (hW'.mono hW.size))).at_ (VAtB.at_ ⟨cs, rfl, hR⟩)) axis1Enters
      have SC := Lib.hid (scalar_any _ x W1 (hva.below hb1).at_ hwx)
      have HB1 := Lib.hid (HB.out.trans (hb1.mono HB.out.size))
      obtain ⟨p0, p1, p2, p3, p4, p5⟩ := HBX.out W1 (Below.refl _ _)
      clear hk1 hb1 hva hwx hrt hlti HLT HK1 HVA hwt
      generalize scalF x = se at *
      generalize (L.take i).any (fun y => decide (cmpV x y = 0)) = dd at *
      as_aux_lemma =>
      go_wp2_with fail
      refine SC.out.mono ?_
      rintro e w3 ⟨rfl, hb3⟩
      have HB3 := Lib.hid (HB1.out.trans (hb3.mono HB1.out.size))
      have CF3 := Lib.hid (CF.out w3 hb3)
      clear SC CF HBX hb3 hW1 e0 e1 e2 e3 e4 e5 p0 p1 p2 p3 p4 p5
      by_cases hv : se = 0
      · have t3b : ((se : Int) == 0) = true := by rw [hv]; rfl
        have t3 : ((se : Int) != 0) = false := by rw [hv]; rfl
        have HS3 := Lib.hid (HS.out.2 hv)
        clear HS hv
        go_wp2_with fail
        refine CF3.out.mono ?_
        rintro e w5 ⟨rfl, hb5⟩
        have HB5 := Lib.hid (HB3.out.trans (hb5.mono HB3.out.size))
        clear CF3 hb5
        cases dd with
        | true =>
          have HN := Lib.hid (HS3.out.1 rfl)
          clear HS3
          go_wp2_with fail
          go_ret
          exact ⟨by rw [HN.out] <;> rfl, HB5.out⟩
        | false =>
          have HN := Lib.hid (HS3.out.2 rfl)
          clear HS3
          go_wp2_with fail
          go_roundg (L.length - (i + 1))
          case measure => omega
          case rel => exact ⟨i + 1, by go_num, by omega, rfl, HN.out, HB5.out⟩
      · have t3b : ((se : Int) == 0) = false := by rw [beq_eq_false_iff_ne]; omega
        have t3 : ((se : Int) != 0) = true := by simp [bne, t3b]
        have HN := Lib.hid (HS.out.1 hv)
        clear HS hv CF3
        go_wp2_with fail
        go_ret
        exact ⟨by rw [HN.out] <;> rfl, HB3.out⟩
    · have hii : ¬ (i : Int) < (L.length : Int) := by omega
      have he : i = L.length := by omega
      have HN : Hid (r = 0) := by unfold Hid; rw [HK.out, he, List.drop_length]; rfl
      clear HK he HR
      as_aux_lemma =>
      go_wp2_with fail
      go_ret
      exact ⟨by rw [HN.out] <;> rfl, HB.out⟩
end Go.Proofs.YtomecnncighkgaaGreatDoor
