/- The walks over the reference's proper, values, patterns, many. -/
import Derived.Test.YtomecnncighkgaaGreatDoorMr2m
import Derived.Test.YtomecnncighkgaaGreatDoorMw5
namespace Go.Proofs.YtomecnncighkgaaGreatDoor
open Go.RowKit Go.Deep

def RpRel (L : List VR) (r : Nat) (w1 : World) (f : Nat) (t3 : Value) (wr : World) : Prop :=
  ∃ i : Nat, t3 = .int .i64 (i : Nat) ∧ i ≤ L.length ∧ f = L.length - i ∧ r = propTo (L.take i) (L.drop i) ∧ Below w1.heap.size w1 wr
def RaRel {α : Type} (M : List α) (p : α → Bool) (d : Bool) (n : Nat) (w1 : World) (f : Nat) (t5 : Value) (wr : World) : Prop :=
  ∃ i : Nat, t5 = .int .i64 (i : Nat) ∧ i ≤ n ∧ f = n - i ∧ d = (M.drop i).any p ∧ Below w1.heap.size w1 wr
set_option maxRecDepth 100000 in
set_option maxHeartbeats 3200000 in
theorem rproper_any (L : List VR) (v : Value) (B : Nat → Prop) (hl : L.length ≤ 9223372036854775807) (hwf : ∀ x ∈ L, x.2.wf) (w : World) (h : EVar.Row B w L v) :
    Calls Tryz.prog 72 #[v] w fun e w' => e = .returned (.int .i64 (propF L : Nat)) ∧ Below w.heap.size w w' := by
  obtain ⟨ao, cap, rfl⟩ := h.form
  have HL := Lib.hid h
  have HW := Lib.hid hwf
  have HR : Hid (∀ i (hi : i < L.length), propF L = propTo (L.take i) (L.drop i) → (keyOk L[i].1 = false → propF L = 1) ∧ (keyOk L[i].1 = true → (scalF L[i].2 ≠ 0 → propF L = scalF L[i].2) ∧ (scalF L[i].2 = 0 → ((L.take i).any (fun y => y.1.toList == L[i].1.toList) = true → propF L = 7) ∧ ((L.take i).any (fun y => y.1.toList == L[i].1.toList) = false → propF L = propTo (L.take (i + 1)) (L.drop (i + 1)))))) := fun i hi h => prop_round hi h
  have HZ : Hid (propF L = propTo (L.take 0) (L.drop 0)) := rfl
  clear h hwf
  generalize propF L = r at *
  go_enter Tryz.func72, Tryz.ntmps72
  go_wp2_with fail
  go_loopg [3] L.length (RpRel L r w)
  case atStart => exact ⟨0, rfl, Nat.zero_le _, rfl, HZ.out, Below.refl _ _⟩
  case round =>
    obtain ⟨i, rfl, hi, rfl, hk, hbel⟩ := hrel
    have HB := Lib.hid hbel
    have HK := Lib.hid hk
    clear hbel hk
    by_cases hlt : i < L.length
    · have hii : (i : Int) < (L.length : Int) := by omega
      obtain ⟨bl, off, ce, rfl, _, hbl, hce, hvc⟩ := (HL.out.below HB.out).at hlt
      obtain ⟨a1, c1, a2, c2, rfl, hva⟩ := evar_seven hvc
      have e0 : wr.cell? ⟨bl, off + i * 7 + 0, none⟩ = _ := hce 0 _ rfl
      have e1 : wr.cell? ⟨bl, off + i * 7 + 1, none⟩ = _ := hce 1 _ rfl
      have e2 : wr.cell? ⟨bl, off + i * 7 + 2, none⟩ = _ := hce 2 _ rfl
      have e3 : wr.cell? ⟨bl, off + i * 7 + 3, none⟩ = _ := hce 3 _ rfl
      have e4 : wr.cell? ⟨bl, off + i * 7 + 4, none⟩ = _ := hce 4 _ rfl
      have e5 : wr.cell? ⟨bl, off + i * 7 + 5, none⟩ = _ := hce 5 _ rfl
      have e6 : wr.cell? ⟨bl, off + i * 7 + 6, none⟩ = _ := hce 6 _ rfl
      rw [Nat.add_zero] at e0
      have hwx := HW.out _ (List.getElem_mem hlt)
      have HS := Lib.hid (HR.out i hlt HK.out)
      have HNX : Hid (∀ W', Below wr.heap.size wr W' → W'.cell? ⟨bl, off + i * 7, none⟩ = some (.string L[i].1)) := fun W' hb => (hb.cell (p := ⟨bl, off + i * 7, none⟩) hbl).trans e0
      have HLB : Hid (∀ W', Below wr.heap.size wr W' → ∀ k, k < i → ∃ nm, (L.take i)[k]?.map (·.1) = some nm ∧ W'.cell? ⟨bl, off + k * 7, none⟩ = some (.string nm)) := fun W' hb k hk => by
        obtain ⟨b2, o2, ce2, e2, _, hb2, hce2, hvc2⟩ := (HL.out.below (HB.out.trans (hb.mono HB.out.size))).at (show k < L.length by omega)
        injection e2 with e2
        injection e2 with e2 e3
        subst e2 e3
        obtain ⟨_, _, _, _, rfl, _⟩ := evar_seven hvc2
        have q := hce2 0 _ rfl
        refine ⟨L[k].1, ?_, q⟩
        rw [List.getElem?_take_of_lt hk, List.getElem?_eq_getElem (show k < L.length by omega)]
        rfl
      clear hce hvc HK HR
      generalize L[i] = x at *
      have SC := Lib.hid (rscalar_any _ x.2 wr hva.at_ hwx)
      have NM := Lib.hid (rnamed_any x.1 wr)
      have HD : Hid ((L.take i).any (fun y => y.1.toList == x.1.toList) = ((L.take i).drop 0).any (fun y => y.1.toList == x.1.toList)) := rfl
      have HTL : Hid ((L.take i).length = i) := by unfold Hid; rw [List.length_take]; omega
      clear hva hwx
      generalize scalF x.2 = se at *
      generalize keyOk x.1 = kk at *
      generalize hdd : (L.take i).any (fun y => y.1.toList == x.1.toList) = dd at HS HD
      clear hdd
      as_aux_lemma =>
      go_wp2_with fail
      refine NM.out.mono ?_
      rintro e w3 ⟨rfl, rfl⟩
      clear NM
      cases kk with
      | false =>
        have HN := Lib.hid (HS.out.1 rfl)
        clear HS SC HNX HLB
        go_wp2_with fail
        go_ret
        exact ⟨by rw [HN.out] <;> rfl, HB.out⟩
      | true =>
        have HS2 := Lib.hid (HS.out.2 rfl)
        clear HS
        go_wp2_with fail
        refine SC.out.mono ?_
        rintro e w3 ⟨rfl, hb3⟩
        have HB3 := Lib.hid hb3
        clear SC hb3 e0 e1 e2 e3 e4 e5 e6
        by_cases hv : se = 0
        · have t3b : ((se : Int) == 0) = true := by rw [hv]; rfl
          have t3 : ((se : Int) != 0) = false := by rw [hv]; rfl
          have HS3 := Lib.hid (HS2.out.2 hv)
          clear HS2 hv
          as_aux_lemma =>
          go_wp2_with fail
          go_loopg [5] i (RaRel (L.take i) (fun y => y.1.toList == x.1.toList) dd i w3)
          case atStart => exact ⟨0, rfl, Nat.zero_le _, rfl, HD.out, Below.refl _ _⟩
          case round =>
            obtain ⟨k, rfl, hk, rfl, hd, hbk⟩ := hrel
            have HDK := Lib.hid hd
            have HBK := Lib.hid (HB3.out.trans (hbk.mono HB3.out.size))
            have HBK3 := Lib.hid hbk
            clear hd hbk
            by_cases hlk : k < i
            · have hkk : (k : Int) < (i : Int) := by omega
              have hkL : (k : Int) < (L.length : Int) := by omega
              obtain ⟨nm, hnm, g0⟩ := HLB.out _ HBK.out k hlk
              have g1 := HNX.out _ HBK.out
              have HA := Lib.hid (any_at (show k < (L.take i).length by rw [HTL.out]; exact hlk) HDK.out)
              have hnm2 : (L.take i)[k]'(by rw [HTL.out]; exact hlk) = ((L.take i)[k]'(by rw [HTL.out]; exact hlk)) := rfl
              have hnm3 : ((L.take i)[k]'(by rw [HTL.out]; exact hlk)).1 = nm := by
                rw [List.getElem?_eq_getElem (by rw [HTL.out]; exact hlk)] at hnm
                exact Option.some.inj hnm
              rw [hnm3] at HA
              clear hnm hnm2 hnm3 HDK
              as_aux_lemma =>
              go_upto_region 12 with fail
              go_quiet (fail)
              cases ht : (nm.toList == x.1.toList) with
              | true =>
                have HN := Lib.hid (HS3.out.1 (HA.out.1 ht))
                clear HA HS3
                go_wp2_with fail
                go_ret
                exact ⟨by rw [HN.out] <;> rfl, HB.out.trans ((HBK.out.trans ((below_drN _ _).mono HBK.out.size)).mono HB.out.size)⟩
              | false =>
                have HN := Lib.hid (HA.out.2 ht)
                clear HA HS3
                go_wp2_with fail
                go_roundg (i - (k + 1))
                case measure => omega
                case rel => exact ⟨k + 1, by go_num, by omega, rfl, HN.out, HBK3.out.trans ((below_drN _ _).mono HBK3.out.size)⟩
            · have hkk : ¬ (k : Int) < (i : Int) := by omega
              have he : k = i := by omega
              have hd0 : dd = false := any_end (M := L.take i) (by have := HDK.out; rw [he] at this; rw [HTL.out]; exact this)
              have HN := Lib.hid (HS3.out.2 hd0)
              clear HS3 hd0 he HDK
              as_aux_lemma =>
              go_wp2_with fail
              go_roundg (L.length - (i + 1))
              case measure => omega
              case rel => exact ⟨i + 1, by go_num, by omega, rfl, HN.out, HB.out.trans (HBK.out.mono HB.out.size)⟩
        · have t3b : ((se : Int) == 0) = false := by rw [beq_eq_false_iff_ne]; omega
          have t3 : ((se : Int) != 0) = true := by simp [bne, t3b]
          have HN := Lib.hid (HS2.out.1 hv)
          clear HS2 hv HLB HNX
          as_aux_lemma =>
          go_wp2_with fail
          go_ret
          exact ⟨by rw [HN.out] <;> rfl, HB.out.trans (HB3.out.mono HB.out.size)⟩
    · have hii : ¬ (i : Int) < (L.length : Int) := by omega
      have he : i = L.length := by omega
      have HN : Hid (r = 0) := by unfold Hid; rw [HK.out, he, List.drop_length]; rfl
      clear HK he HR
      as_aux_lemma =>
      go_wp2_with fail
      go_ret
      exact ⟨by rw [HN.out] <;> rfl, HB.out⟩
def RvalRel (L : List VT) (r : Nat) (w1 : World) (f : Nat) (t3 : Value) (wr : World) : Prop :=
  ∃ i : Nat, t3 = .int .i64 (i : Nat) ∧ i ≤ L.length ∧ f = L.length - i ∧ r = valsTo (L.take i) (L.drop i) ∧ Below w1.heap.size w1 wr
set_option maxRecDepth 100000 in
set_option maxHeartbeats 3200000 in
theorem rvalues_any (L : List VT) (v : Value) (B : Nat → Prop) (hl : L.length ≤ 9223372036854775807) (hwf : ∀ x ∈ L, x.wf) (w : World) (h : EVal.Row B w L v) :
    Calls Tryz.prog 41 #[v] w fun e w' => e = .returned (.int .i64 (valsF L : Nat)) ∧ Below w.heap.size w w' := by
  obtain ⟨ao, cap, rfl⟩ := h.form
  have HL := Lib.hid h
  have HW := Lib.hid hwf
  clear h hwf
  by_cases hbig : 1024 < L.length
  · have HN : Hid (valsF L = 3) := if_pos hbig
    have t1 : (1024 : Int) < (L.length : Int) := by omega
    generalize valsF L = r at *
    clear HL HW hbig
    as_aux_lemma =>
    go_enter Tryz.func41, Tryz.ntmps41
    go_wp2_with fail
    go_ret
    exact ⟨by rw [HN.out] <;> rfl, Below.refl _ _⟩
  have HZ : Hid (valsF L = valsTo (L.take 0) (L.drop 0)) := if_neg hbig
  have t1 : decide ((1024 : Int) < (L.length : Int)) = false := decide_eq_false (by omega)
  have t1b : ¬ (1024 : Int) < (L.length : Int) := by omega
  have HR : Hid (∀ i r (hi : i < L.length), r = valsTo (L.take i) (L.drop i) → (scalF L[i] ≠ 0 → r = scalF L[i]) ∧ (scalF L[i] = 0 → ((L.take i).any (fun y => decide (cmpV L[i] y = 0)) = true → r = 7) ∧ ((L.take i).any (fun y => decide (cmpV L[i] y = 0)) = false → r = valsTo (L.take (i + 1)) (L.drop (i + 1))))) := fun i r hi h => vals_round hi h
  generalize valsF L = r at *
  go_enter Tryz.func41, Tryz.ntmps41
  go_wp2_with fail
  go_loopg [3] L.length (RvalRel L r w)
  case atStart => exact ⟨0, rfl, Nat.zero_le _, rfl, HZ.out, Below.refl _ _⟩
  case round =>
    obtain ⟨i, rfl, hi, rfl, hk, hbel⟩ := hrel
    have HB := Lib.hid hbel
    have HK := Lib.hid hk
    clear hbel hk
    by_cases hlt : i < L.length
    · have hii : (i : Int) < (L.length : Int) := by omega
      obtain ⟨bl, off, ce, rfl, _, hbl, hce, hvc⟩ := (HL.out.below HB.out).at hlt
      have hwx := HW.out _ (List.getElem_mem hlt)
      have hva : VAtB B wr (.agg ce.toArray) L[i] := ⟨_, rfl, hvc⟩
      obtain ⟨a1, c1, a2, c2, rfl⟩ := vcellB_slices hvc
      have e0 : wr.cell? ⟨bl, off + i * 6 + 0, none⟩ = _ := hce 0 _ rfl
      have e1 : wr.cell? ⟨bl, off + i * 6 + 1, none⟩ = _ := hce 1 _ rfl
      have e2 : wr.cell? ⟨bl, off + i * 6 + 2, none⟩ = _ := hce 2 _ rfl
      have e3 : wr.cell? ⟨bl, off + i * 6 + 3, none⟩ = _ := hce 3 _ rfl
      have e4 : wr.cell? ⟨bl, off + i * 6 + 4, none⟩ = _ := hce 4 _ rfl
      have e5 : wr.cell? ⟨bl, off + i * 6 + 5, none⟩ = _ := hce 5 _ rfl
      rw [Nat.add_zero] at e0
      have HS := Lib.hid (HR.out i r hlt HK.out)
      have HLB : Hid (∀ W', Below wr.heap.size wr W' → ∀ k (hk : k < i), ∃ (y : VT) (a3 : Option Addr) (c3 : Nat) (a4 : Option Addr) (c4 : Nat), (L.take i)[k]? = some y ∧ y.wf ∧ VAt W' (.agg #[.int .i64 y.kind, .bool y.bool, .int .i64 y.int, .string y.str, .slice a3 y.list.length c3, .slice a4 y.keys.length c4]) y ∧ W'.cell? ⟨bl, off + k * 6, none⟩ = some (.int .i64 y.kind) ∧ W'.cell? ⟨bl, off + k * 6 + 1, none⟩ = some (.bool y.bool) ∧ W'.cell? ⟨bl, off + k * 6 + 2, none⟩ = some (.int .i64 y.int) ∧ W'.cell? ⟨bl, off + k * 6 + 3, none⟩ = some (.string y.str) ∧ W'.cell? ⟨bl, off + k * 6 + 4, none⟩ = some (.slice a3 y.list.length c3) ∧ W'.cell? ⟨bl, off + k * 6 + 5, none⟩ = some (.slice a4 y.keys.length c4)) := fun W' hb k hk => by
        obtain ⟨b2, o2, ce2, e2, _, hb2, hce2, hvc2⟩ := (HL.out.below (HB.out.trans (hb.mono HB.out.size))).at (show k < L.length by omega)
        injection e2 with e2
        injection e2 with e2 e3
        subst e2 e3
        have hv2 : VAtB B W' (.agg ce2.toArray) L[k] := ⟨_, rfl, hvc2⟩
        obtain ⟨a3, c3, a4, c4, rfl⟩ := vcellB_slices hvc2
        refine ⟨L[k], a3, c3, a4, c4, ?_, HW.out _ (List.getElem_mem _), hv2.at_, hce2 0 _ rfl, hce2 1 _ rfl, hce2 2 _ rfl, hce2 3 _ rfl, hce2 4 _ rfl, hce2 5 _ rfl⟩
        rw [List.getElem?_take_of_lt hk, List.getElem?_eq_getElem (show k < L.length by omega)]
      have HXB : Hid (∀ W', Below wr.heap.size wr W' → W'.cell? ⟨bl, off + i * 6, none⟩ = some (.int .i64 L[i].kind) ∧ W'.cell? ⟨bl, off + i * 6 + 1, none⟩ = some (.bool L[i].bool) ∧ W'.cell? ⟨bl, off + i * 6 + 2, none⟩ = some (.int .i64 L[i].int) ∧ W'.cell? ⟨bl, off + i * 6 + 3, none⟩ = some (.string L[i].str) ∧ W'.cell? ⟨bl, off + i * 6 + 4, none⟩ = some (.slice a1 L[i].list.length c1) ∧ W'.cell? ⟨bl, off + i * 6 + 5, none⟩ = some (.slice a2 L[i].keys.length c2)) := fun W' hb => by
        have g : ∀ (j : Nat) u, [Value.int .i64 L[i].kind, .bool L[i].bool, .int .i64 L[i].int, .string L[i].str, .slice a1 L[i].list.length c1, .slice a2 L[i].keys.length c2][j]? = some u → W'.cell? ⟨bl, off + i * 6 + j, none⟩ = some u := fun j u hu => (hb.cell (p := ⟨bl, off + i * 6 + j, none⟩) hbl).trans (hce j u hu)
        exact ⟨g 0 _ rfl, g 1 _ rfl, g 2 _ rfl, g 3 _ rfl, g 4 _ rfl, g 5 _ rfl⟩
      have HTL : Hid ((L.take i).length = i) := by unfold Hid; rw [List.length_take]; omega
      have HVX : Hid (VAtB B wr (.agg #[.int .i64 L[i].kind, .bool L[i].bool, .int .i64 L[i].int, .string L[i].str, .slice a1 L[i].list.length c1, .slice a2 L[i].keys.length c2]) L[i]) := hva
      clear hce hvc HK HR hva
      generalize L[i] = x at *
      rw [any_sym] at HS
      have SC := Lib.hid (rscalar_any _ x wr HVX.out.at_ hwx)
      have HD : Hid ((L.take i).any (fun y => decide (cmpV y x = 0)) = ((L.take i).drop 0).any (fun y => decide (cmpV y x = 0))) := rfl
      have HWX := Lib.hid hwx
      clear hwx
      generalize scalF x = se at *
      generalize hdd : (L.take i).any (fun y => decide (cmpV y x = 0)) = dd at HS HD
      clear hdd
      as_aux_lemma =>
      go_wp2_with fail
      refine SC.out.mono ?_
      rintro e w3 ⟨rfl, hb3⟩
      have HB3 := Lib.hid hb3
      clear SC hb3 e0 e1 e2 e3 e4 e5
      by_cases hv : se = 0
      · have t3b : ((se : Int) == 0) = true := by rw [hv]; rfl
        have t3 : ((se : Int) != 0) = false := by rw [hv]; rfl
        have HS3 := Lib.hid (HS.out.2 hv)
        clear HS hv
        as_aux_lemma =>
        go_wp2_with fail
        go_loopg [5] i (RaRel (L.take i) (fun y => decide (cmpV y x = 0)) dd i w3)
        case atStart => exact ⟨0, rfl, Nat.zero_le _, rfl, HD.out, Below.refl _ _⟩
        case round =>
          obtain ⟨w5, hw5⟩ : ∃ w5 : World, w5 = wr := ⟨_, rfl⟩
          subst hw5
          obtain ⟨k, rfl, hk, rfl, hd, hbk⟩ := hrel
          have HDK := Lib.hid hd
          have HBK := Lib.hid (HB3.out.trans (hbk.mono HB3.out.size))
          have HBK3 := Lib.hid hbk
          clear hd hbk
          by_cases hlk : k < i
          · have hkk : (k : Int) < (i : Int) := by omega
            have hkL : (k : Int) < (L.length : Int) := by omega
            obtain ⟨y, a3, c3, a4, c4, hy, hwy, hvy, g0, g1, g2, g3, g4, g5⟩ := HLB.out _ HBK.out k hlk
            obtain ⟨d0, d1, d2, d3, d4, d5⟩ := HXB.out _ HBK.out
            have HA := Lib.hid (any_at (show k < (L.take i).length by rw [HTL.out]; exact hlk) HDK.out)
            have hy2 : (L.take i)[k]'(by rw [HTL.out]; exact hlk) = y := by
              rw [List.getElem?_eq_getElem (by rw [HTL.out]; exact hlk)] at hy
              exact Option.some.inj hy
            rw [hy2] at HA
            have EQ : Hid (∀ W', Below w5.heap.size w5 W' → Calls Tryz.prog 71 #[.agg #[.int .i64 y.kind, .bool y.bool, .int .i64 y.int, .string y.str, .slice a3 y.list.length c3, .slice a4 y.keys.length c4], .agg #[.int .i64 x.kind, .bool x.bool, .int .i64 x.int, .string x.str, .slice a1 x.list.length c1, .slice a2 x.keys.length c2]] W' fun e w' => e = .returned (.bool (decide (cmpV y x = 0))) ∧ Below W'.heap.size W' w') := fun W' hb => requal_any y x hwy HWX.out _ _ W' (hvy.below hb) ((HVX.out.below (HBK.out.trans (hb.mono HBK.out.size))).at_)
            have HBD : Hid (Below w5.heap.size w5 w5.drew) := (Below.refl _ w5).drew
            clear hy hy2 hwy hvy HDK
            generalize decide (cmpV y x = 0) = de at *
            as_aux_lemma =>
            go_upto_region 12 with fail
            go_still_tail 8, (by kernel_rfl)
            change wpList _ _ _ _ _ (World.drew _)
            go_wp2_with fail
            refine (EQ.out _ HBD.out).mono ?_
            rintro e w7 ⟨rfl, hb7⟩
            have HB7 := Lib.hid (HBD.out.trans (hb7.mono HBD.out.size))
            clear hb7 EQ g0 g1 g2 g3 g4 g5 d0 d1 d2 d3 d4 d5
            cases de with
            | true =>
              have HN := Lib.hid (HS3.out.1 (HA.out.1 rfl))
              clear HA HS3
              go_wp2_with fail
              go_ret
              exact ⟨by rw [HN.out] <;> rfl, HB.out.trans ((HBK.out.trans (HB7.out.mono HBK.out.size)).mono HB.out.size)⟩
            | false =>
              have HN := Lib.hid (HA.out.2 rfl)
              clear HA HS3
              go_wp2_with fail
              go_roundg (i - (k + 1))
              case measure => omega
              case rel => exact ⟨k + 1, by go_num, by omega, rfl, HN.out, HBK3.out.trans (HB7.out.mono HBK3.out.size)⟩
          · have hkk : ¬ (k : Int) < (i : Int) := by omega
            have he : k = i := by omega
            have hd0 : dd = false := any_end (M := L.take i) (by have := HDK.out; rw [he] at this; rw [HTL.out]; exact this)
            have HN := Lib.hid (HS3.out.2 hd0)
            clear HS3 hd0 he HDK
            as_aux_lemma =>
            go_wp2_with fail
            go_roundg (L.length - (i + 1))
            case measure => omega
            case rel => exact ⟨i + 1, by go_num, by omega, rfl, HN.out, HB.out.trans (HBK.out.mono HB.out.size)⟩
      · have t3b : ((se : Int) == 0) = false := by rw [beq_eq_false_iff_ne]; omega
        have t3 : ((se : Int) != 0) = true := by simp [bne, t3b]
        have HN := Lib.hid (HS.out.1 hv)
        clear HS hv HLB HXB
        as_aux_lemma =>
        go_wp2_with fail
        go_ret
        exact ⟨by rw [HN.out] <;> rfl, HB.out.trans (HB3.out.mono HB.out.size)⟩
    · have hii : ¬ (i : Int) < (L.length : Int) := by omega
      have he : i = L.length := by omega
      have HN : Hid (r = 0) := by unfold Hid; rw [HK.out, he, List.drop_length]; rfl
      clear HK he HR
      as_aux_lemma =>
      go_wp2_with fail
      go_ret
      exact ⟨by rw [HN.out] <;> rfl, HB.out⟩
set_option maxRecDepth 100000 in
set_option maxHeartbeats 3200000 in
theorem rpatterns_any (I : List (List VR)) (v : Value) (B : Nat → Prop) (hl : I.length ≤ 9223372036854775807) (hwf : ∀ L ∈ I, wfVars L) (w : World) (h : EVars.Row B w I v) :
    Calls Tryz.prog 42 #[v] w fun e w' => e = .returned (.int .i64 (patsF I : Nat)) ∧ Below w.heap.size w w' := by
  obtain ⟨ao, cap, rfl⟩ := h.form
  have HL := Lib.hid h
  have HW := Lib.hid hwf
  clear h hwf
  by_cases hbig : 1024 < I.length
  · have HN : Hid (patsF I = 3) := if_pos hbig
    have t1 : (1024 : Int) < (I.length : Int) := by omega
    generalize patsF I = r at *
    clear HL HW hbig
    as_aux_lemma =>
    go_enter Tryz.func42, Tryz.ntmps42
    go_wp2_with fail
    go_ret
    exact ⟨by rw [HN.out] <;> rfl, Below.refl _ _⟩
  have HZ : Hid (patsF I = patsTo (I.drop 0)) := if_neg hbig
  have t1 : decide ((1024 : Int) < (I.length : Int)) = false := decide_eq_false (by omega)
  have t1b : ¬ (1024 : Int) < (I.length : Int) := by omega
  generalize patsF I = r at *
  go_enter Tryz.func42, Tryz.ntmps42
  go_wp2_with fail
  go_loopg [3] I.length (VpRel I r w)
  case atStart => exact ⟨0, rfl, Nat.zero_le _, rfl, HZ.out, Below.refl _ _⟩
  case round =>
    obtain ⟨k, rfl, hk, rfl, hk2, hbel⟩ := hrel
    have HB := Lib.hid hbel
    have HK := Lib.hid hk2
    clear hbel hk2
    by_cases hlk : k < I.length
    · have hkk : (k : Int) < (I.length : Int) := by omega
      obtain ⟨bl, off, a3, c3, rfl, hbl, y0, hvr⟩ := evars_at (HL.out.below HB.out) hlk
      have hwx := HW.out _ (List.getElem_mem hlk)
      have PC := Lib.hid (rproper_any I[k] _ B hwx.1 (fun x hx => (hwx.2 x hx).2) _ hvr)
      have HS := Lib.hid (pats_round hlk HK.out)
      clear hvr hwx HK
      generalize propF I[k] = pe at *
      generalize I[k].length = ln at *
      as_aux_lemma =>
      go_wp2_with fail
      refine PC.out.mono ?_
      rintro e w5 ⟨rfl, hb5⟩
      have HB5 := Lib.hid (HB.out.trans (hb5.mono HB.out.size))
      clear PC hb5 y0
      by_cases hv : pe = 0
      · have t4b : ((pe : Int) == 0) = true := by rw [hv]; rfl
        have t4 : ((pe : Int) != 0) = false := by rw [hv]; rfl
        have HN := Lib.hid (HS.out.2 hv)
        clear HS hv
        go_wp2_with fail
        go_roundg (I.length - (k + 1))
        case measure => omega
        case rel => exact ⟨k + 1, by go_num, by omega, rfl, HN.out, HB5.out⟩
      · have t4b : ((pe : Int) == 0) = false := by rw [beq_eq_false_iff_ne]; omega
        have t4 : ((pe : Int) != 0) = true := by simp [bne, t4b]
        have HN := Lib.hid (HS.out.1 hv)
        clear HS hv
        go_wp2_with fail
        go_ret
        exact ⟨by rw [HN.out] <;> rfl, HB5.out⟩
    · have hkk : ¬ (k : Int) < (I.length : Int) := by omega
      have he : k = I.length := by omega
      have HN : Hid (r = 0) := by unfold Hid; rw [HK.out, he, List.drop_length]; rfl
      clear HK he
      as_aux_lemma =>
      go_wp2_with fail
      go_ret
      exact ⟨by rw [HN.out] <;> rfl, HB.out⟩
def RnRel (A : List AX) (w1 : World) (f : Nat) (t3 t4 : Value) (wr : World) : Prop :=
  ∃ i : Nat, t4 = .int .i64 (i : Nat) ∧ i ≤ A.length ∧ f = A.length - i ∧ t3 = .int .i64 (satK 1000000 (A.take i) : Nat) ∧ A.any (fun a => decide (a.2.length = 0)) = (A.drop i).any (fun a => decide (a.2.length = 0)) ∧ Below w1.heap.size w1 wr
set_option maxRecDepth 100000 in
set_option maxHeartbeats 3200000 in
theorem rmany_any (A : List AX) (v : Value) (B : Nat → Prop) (hl : ∀ a ∈ A, a.2.length ≤ 1024) (hn : A.length ≤ 9223372036854775807) (w : World) (h : EAx.Row B w A v) :
    Calls Tryz.prog 30 #[v] w fun e w' => e = .returned (.bool (manyF A)) ∧ Below w.heap.size w w' := by
  obtain ⟨ao, cap, rfl⟩ := h.form
  have HA := Lib.hid h
  have HL := Lib.hid hl
  have HE := Lib.hid (fun h => many_empty (l := A) h)
  have HS := Lib.hid (fun h => many_sat (l := A) 1000000 (by decide) h)
  have HSL : Hid (∀ l : List AX, satK 1000000 l ≤ 1000000) := satK_le (by decide)
  have HST : Hid (∀ i (hi : i < A.length), satK 1000000 (A.take (i + 1)) = min (satK 1000000 (A.take i) * A[i].2.length) 1000000) := fun i hi => satK_step hi
  have HZ : Hid (satK 1000000 (A.take 0) = 1) := rfl
  have HT : Hid (A.foldl (fun n a => min (n * a.2.length) 1000000) 1 = satK 1000000 A) := rfl
  have HMA : Hid (∀ i (hi : i < A.length), A.any (fun a => decide (a.2.length = 0)) = (A.drop i).any (fun a => decide (a.2.length = 0)) → (A[i].2.length = 0 → A.any (fun a => decide (a.2.length = 0)) = true) ∧ (A[i].2.length ≠ 0 → A.any (fun a => decide (a.2.length = 0)) = (A.drop (i + 1)).any (fun a => decide (a.2.length = 0)))) := fun i hi h => many_any_at hi h
  clear h hl
  generalize manyF A = r at *
  go_enter Tryz.func30, Tryz.ntmps30
  go_wp2_with fail
  go_loopg [3, 4] A.length (RnRel A w)
  case atStart => exact ⟨0, rfl, Nat.zero_le _, rfl, by rw [HZ.out]; rfl, rfl, Below.refl _ _⟩
  case round =>
    obtain ⟨i, rfl, hi, rfl, rfl, hem, hbel⟩ := hrel
    have HB := Lib.hid hbel
    have HEM := Lib.hid hem
    clear hbel hem
    by_cases hlt : i < A.length
    · have hii : (i : Int) < (A.length : Int) := by omega
      obtain ⟨bl, off, a1, c1, rfl, hbl, e0, e1, hvr⟩ := eax_at (HA.out.below HB.out) hlt
      have hx := HL.out _ (List.getElem_mem hlt)
      have hs := HSL.out (A.take i)
      have HST2 := Lib.hid (HST.out i hlt)
      have HMX := Lib.hid (HMA.out i hlt HEM.out)
      clear hvr HST HMA HEM
      generalize A[i] = x at *
      obtain ⟨xn, xv⟩ := x
      dsimp only at hx e0 e1
      have HST3 : Hid (satK 1000000 (A.take (i + 1)) = min (satK 1000000 (A.take i) * xv.length) 1000000) := HST2.out
      have HMY : Hid ((xv.length = 0 → A.any (fun a => decide (a.2.length = 0)) = true) ∧ (xv.length ≠ 0 → A.any (fun a => decide (a.2.length = 0)) = (A.drop (i + 1)).any (fun a => decide (a.2.length = 0)))) := HMX.out
      clear HST2 HMX
      generalize satK 1000000 (A.take i) = s1 at *
      generalize xv.length = n at *
      have hm : s1 * n ≤ 1000000 * 1024 := Nat.mul_le_mul hs hx
      have q1 : IntKind.i64.wrap ((s1 : Int) * (n : Int)) = (s1 : Int) * (n : Int) := IntWalk.i64_in _ (by
        have : ((s1 * n : Nat) : Int) = (s1 : Int) * (n : Int) := by simp
        omega)
      by_cases hz : n = 0
      · have tz : ((n : Int) == 0) = true := by rw [hz]; rfl
        have HN := Lib.hid (HE.out (HMY.out.1 hz))
        clear HMY HS HE hz hm q1
        as_aux_lemma =>
        go_wp2_with fail
        go_ret
        exact ⟨by rw [HN.out] <;> rfl, HB.out⟩
      · have tz : ((n : Int) == 0) = false := by rw [beq_eq_false_iff_ne]; omega
        have HN := Lib.hid (HMY.out.2 hz)
        clear HMY hz
        as_aux_lemma =>
        go_wp2_with fail
        go_roundg (A.length - (i + 1))
        case measure => omega
        case rel => exact ⟨i + 1, by go_num, by omega, rfl, iv (by rw [HST3.out]; have : ((s1 * n : Nat) : Int) = (s1 : Int) * (n : Int) := (by simp); omega), HN.out, HB.out⟩
    · have hii : ¬ (i : Int) < (A.length : Int) := by omega
      have he : i = A.length := by omega
      have hf : A.any (fun a => decide (a.2.length = 0)) = false := any_end (M := A) (by have := HEM.out; rw [he] at this; exact this)
      have HN2 : Hid (r = decide (256 < satK 1000000 (A.take i))) := by unfold Hid; rw [he, List.take_length, HS.out hf, HT.out]
      clear he hf HS HE HEM HMA
      generalize satK 1000000 (A.take i) = s1 at *
      as_aux_lemma =>
      go_wp2_with fail
      go_ret
      exact ⟨ret_bool (by rw [HN2.out, Bool.eq_iff_iff]; simp; first | done | omega), HB.out⟩
end Go.Proofs.YtomecnncighkgaaGreatDoor
/- The walk over the reference's Valid. -/
namespace Go.Proofs.YtomecnncighkgaaGreatDoor
open Go.RowKit Go.Deep

set_option maxRecDepth 100000 in
set_option maxHeartbeats 3200000 in
theorem rmvalid_any (m : MX) (v : Value) (B : Nat → Prop) (hm : m.wf) (w : World) (h : MAt B w v m) :
    Calls Tryz.prog 14 #[v] w fun e w' => e = .returned (.int .i64 (validM m : Nat)) ∧ Below w.heap.size w w' := by
  obtain ⟨ao, ac, io, ic, eo, ec, rfl, hA, hI, hE⟩ := h
  obtain ⟨W1, hW1⟩ : ∃ W1, w.alloc (.cells #[.slice ao m.axes.length ac, .slice io m.incl.length ic, .slice eo m.excl.length ec] 25 (0, 0)) = W1 := ⟨_, rfl⟩
  have hk1 : W1.heap[w.heap.size]? = some (.cells #[.slice ao m.axes.length ac, .slice io m.incl.length ic, .slice eo m.excl.length ec] 25 (0, 0)) := by rw [← hW1]; exact hp_new rfl
  have hb1 : Below w.heap.size w W1 := by rw [← hW1]; exact (Below.refl _ w).alloc (Nat.le_refl _) _
  have HLT : Hid (w.heap.size < W1.heap.size) := (Array.getElem?_eq_some_iff.1 hk1).1
  have HK1 := Lib.hid hk1
  have HBX : Hid (∀ W', Below W1.heap.size W1 W' → W'.cell? ⟨w.heap.size, 0, none⟩ = some (.slice ao m.axes.length ac) ∧ W'.cell? ⟨w.heap.size, 1, none⟩ = some (.slice io m.incl.length ic) ∧ W'.cell? ⟨w.heap.size, 2, none⟩ = some (.slice eo m.excl.length ec)) := fun W' hb => by
    have q := (hb.block _ HLT.out).trans HK1.out
    exact ⟨cell_of_blk q 0, cell_of_blk q 1, cell_of_blk q 2⟩
  have HA := Lib.hid (hA.below hb1)
  have HI := Lib.hid (hI.below hb1)
  have HE := Lib.hid (hE.below hb1)
  have HM := Lib.hid hm
  have HB0 := Lib.hid hb1
  obtain ⟨p0, p1, p2⟩ := HBX.out W1 (Below.refl _ _)
  clear hA hI hE hm hb1 hk1 HLT HK1
  by_cases h8 : 8 < m.axes.length
  · have t1 : (8 : Int) < (m.axes.length : Int) := by omega
    have HN : Hid (validM m = 15) := if_pos h8
    generalize validM m = r at *
    clear HA HI HE HM HBX h8
    as_aux_lemma =>
    go_enter Tryz.func14, Tryz.ntmps14
    go_wp2_with fail
    go_ret
    exact ⟨by rw [HN.out] <;> rfl, HB0.out⟩
  have t1 : decide ((8 : Int) < (m.axes.length : Int)) = false := decide_eq_false (by omega)
  have t1b : ¬ (8 : Int) < (m.axes.length : Int) := by omega
  have HVA : Hid (axTo [] m.axes ≠ 0 → validM m = axTo [] m.axes) := fun k => by unfold validM; rw [if_neg h8, if_pos k]
  have HVI : Hid (axTo [] m.axes = 0 → patsF m.incl ≠ 0 → validM m = patsF m.incl) := fun k k2 => by unfold validM; rw [if_neg h8, if_neg (fun q => q k), if_pos k2]
  have HVE : Hid (axTo [] m.axes = 0 → patsF m.incl = 0 → validM m = patsF m.excl) := fun k k2 => by unfold validM; rw [if_neg h8, if_neg (fun q => q k), if_neg (fun q => q k2)]
  have HZ : Hid (axTo [] m.axes = axTo (m.axes.take 0) (m.axes.drop 0)) := rfl
  generalize axTo [] m.axes = av at *
  generalize validM m = r at *
  clear h8
  go_enter Tryz.func14, Tryz.ntmps14
  go_wp2_with fail
  clear p0 p1 p2 hW1
  go_loopg [3] m.axes.length (VxRel m av W1)
  case atStart => exact ⟨0, rfl, Nat.zero_le _, rfl, HZ.out, Below.refl _ _⟩
  case round =>
    obtain ⟨i, rfl, hi, rfl, hk, hbel⟩ := hrel
    have HB := Lib.hid hbel
    have HK := Lib.hid hk
    clear hbel hk
    obtain ⟨p0, p1, p2⟩ := HBX.out wr HB.out
    by_cases hlt : i < m.axes.length
    · have hii : (i : Int) < (m.axes.length : Int) := by omega
      obtain ⟨bl, off, a1, c1, rfl, hbl, e0, e1, hvr⟩ := eax_at (HA.out.below HB.out) hlt
      have hwx := HM.out.ax _ (List.getElem_mem hlt)
      have HS := Lib.hid (ax_round hlt HK.out)
      have HLB : Hid (∀ W', Below wr.heap.size wr W' → ∀ k (hk : k < i), ∃ y : AX, (m.axes.take i)[k]? = some y ∧ W'.cell? ⟨bl, off + k * 2, none⟩ = some (.string y.1)) := fun W' hb k hk => by
        obtain ⟨b2, o2, a2, c2, e2, _, g0, _, _⟩ := eax_at (HA.out.below (HB.out.trans (hb.mono HB.out.size))) (show k < m.axes.length by omega)
        injection e2 with e2
        injection e2 with e2 e3
        subst e2 e3
        exact ⟨m.axes[k], by rw [List.getElem?_take_of_lt hk, List.getElem?_eq_getElem (show k < m.axes.length by omega)], g0⟩
      have HNX : Hid (∀ W', Below wr.heap.size wr W' → W'.cell? ⟨bl, off + i * 2, none⟩ = some (.string m.axes[i].1) ∧ W'.cell? ⟨bl, off + i * 2 + 1, none⟩ = some (.slice a1 m.axes[i].2.length c1)) := fun W' hb => ⟨(hb.cell (p := ⟨bl, off + i * 2, none⟩) hbl).trans e0, (hb.cell (p := ⟨bl, off + i * 2 + 1, none⟩) hbl).trans e1⟩
      have HTL : Hid ((m.axes.take i).length = i) := by unfold Hid; rw [List.length_take]; omega
      have AX := fun W (hW : Below wr.heap.size wr W) => Lib.hid (rvalues_any m.axes[i].2 _ B hwx.2.1 hwx.2.2 W (hvr.below hW))
      clear hwx hvr HK
      generalize m.axes[i] = x at *
      have NM := Lib.hid (rnamed_any x.1 wr)
      have HD : Hid ((m.axes.take i).any (fun y => y.1.toList == x.1.toList) = ((m.axes.take i).drop 0).any (fun y => y.1.toList == x.1.toList)) := rfl
      generalize valsF x.2 = ve at *
      generalize keyOk x.1 = kk at *
      generalize hdd : (m.axes.take i).any (fun y => y.1.toList == x.1.toList) = dd at HS HD
      clear hdd
      as_aux_lemma =>
      go_wp2_with fail
      refine NM.out.mono ?_
      rintro e w3 ⟨rfl, rfl⟩
      clear NM
      cases kk with
      | false =>
        have HN : Hid (r = 1) := by have := HS.out.1 rfl; unfold Hid; rw [HVA.out (by omega), this]
        clear HS AX HBX HVA HVI HVE HLB HNX
        as_aux_lemma =>
        go_wp2_with fail
        go_ret
        exact ⟨by rw [HN.out] <;> rfl, HB0.out.trans (HB.out.mono HB0.out.size)⟩
      | true =>
        have HS2 := Lib.hid (HS.out.2 rfl)
        clear HS e0 e1 p0 p1 p2
        as_aux_lemma =>
        go_wp2_with fail
        go_loopg [4] i (RaRel (m.axes.take i) (fun y => y.1.toList == x.1.toList) dd i w3)
        case atStart => exact ⟨0, rfl, Nat.zero_le _, rfl, HD.out, Below.refl _ _⟩
        case round =>
          obtain ⟨w5, hw5⟩ : ∃ w5 : World, w5 = wr := ⟨_, rfl⟩
          subst hw5
          obtain ⟨k, rfl, hk, rfl, hd, hbk⟩ := hrel
          have HDK := Lib.hid hd
          have HBK := Lib.hid hbk
          clear hd hbk
          obtain ⟨p0, p1, p2⟩ := HBX.out w5 (HB.out.trans (HBK.out.mono HB.out.size))
          by_cases hlk : k < i
          · have hkk : (k : Int) < (i : Int) := by omega
            have hkL : (k : Int) < (m.axes.length : Int) := by omega
            obtain ⟨y, hy, g0⟩ := HLB.out _ HBK.out k hlk
            obtain ⟨d0, d1⟩ := HNX.out _ HBK.out
            have HA2 := Lib.hid (any_at (show k < (m.axes.take i).length by rw [HTL.out]; exact hlk) HDK.out)
            have hy2 : (m.axes.take i)[k]'(by rw [HTL.out]; exact hlk) = y := by
              rw [List.getElem?_eq_getElem (by rw [HTL.out]; exact hlk)] at hy
              exact Option.some.inj hy
            rw [hy2] at HA2
            clear hy hy2 HDK
            as_aux_lemma =>
            go_upto_region 11 with fail
            go_quiet (fail)
            cases ht : (y.1.toList == x.1.toList) with
            | true =>
              have HN : Hid (r = 7) := by have := HS2.out.1 (HA2.out.1 ht); unfold Hid; rw [HVA.out (by omega), this]
              clear HA2 HS2 HVA HVI HVE HLB HNX AX HBX
              go_wp2_with fail
              go_ret
              exact ⟨by rw [HN.out] <;> rfl, HB0.out.trans ((HB.out.trans ((HBK.out.trans ((below_drN _ _).mono HBK.out.size)).mono HB.out.size)).mono HB0.out.size)⟩
            | false =>
              have HN := Lib.hid (HA2.out.2 ht)
              clear HA2 HS2
              go_wp2_with fail
              go_roundg (i - (k + 1))
              case measure => omega
              case rel => exact ⟨k + 1, by go_num, by omega, rfl, HN.out, HBK.out.trans ((below_drN _ _).mono HBK.out.size)⟩
          · have hkk : ¬ (k : Int) < (i : Int) := by omega
            have he : k = i := by omega
            have hd0 : dd = false := any_end (M := m.axes.take i) (by have := HDK.out; rw [he] at this; rw [HTL.out]; exact this)
            have HS3 := Lib.hid (HS2.out.2 hd0)
            have AX5 := AX w5 HBK.out
            obtain ⟨d0, d1⟩ := HNX.out _ HBK.out
            clear HS2 hd0 he HDK AX HLB HNX
            as_aux_lemma =>
            go_wp2_with fail
            refine AX5.out.mono ?_
            rintro e w7 ⟨rfl, hb7⟩
            have HB7 := Lib.hid (HBK.out.trans (hb7.mono HBK.out.size))
            clear AX5 hb7 d0 d1 p0 p1 p2
            by_cases hv : ve = 0
            · have t3b : ((ve : Int) == 0) = true := by rw [hv]; rfl
              have t3 : ((ve : Int) != 0) = false := by rw [hv]; rfl
              have HN := Lib.hid (HS3.out.2 hv)
              clear HS3 hv
              go_wp2_with fail
              go_roundg (m.axes.length - (i + 1))
              case measure => omega
              case rel => exact ⟨i + 1, by go_num, by omega, rfl, HN.out, HB.out.trans (HB7.out.mono HB.out.size)⟩
            · have t3b : ((ve : Int) == 0) = false := by rw [beq_eq_false_iff_ne]; omega
              have t3 : ((ve : Int) != 0) = true := by simp [bne, t3b]
              have HN : Hid (r = ve) := by have := HS3.out.1 hv; unfold Hid; rw [HVA.out (by rw [this]; exact hv), this]
              clear HS3 hv HVA HVI HVE HBX
              go_wp2_with fail
              go_ret
              exact ⟨by rw [HN.out] <;> rfl, HB0.out.trans ((HB.out.trans (HB7.out.mono HB.out.size)).mono HB0.out.size)⟩
    · have hii : ¬ (i : Int) < (m.axes.length : Int) := by omega
      have he : i = m.axes.length := by omega
      have hav : av = 0 := by rw [HK.out, he, List.drop_length]; rfl
      have HI0 := Lib.hid (HVI.out hav)
      have HE0 := Lib.hid (HVE.out hav)
      have PI := Lib.hid (rpatterns_any m.incl _ B HM.out.li HM.out.inc wr (HI.out.below HB.out))
      have PE := fun W (hW : Below wr.heap.size wr W) => Lib.hid (rpatterns_any m.excl _ B HM.out.le HM.out.exc W (HE.out.below (HB.out.trans (hW.mono HB.out.size))))
      clear HVA HVI HVE hav he HK HA HI HE HZ
      generalize patsF m.incl = pi at *
      generalize patsF m.excl = pe at *
      as_aux_lemma =>
      go_wp2_with fail
      refine PI.out.mono ?_
      rintro e w5 ⟨rfl, hb5⟩
      have PE5 := PE w5 hb5
      have HB5 := Lib.hid (HB.out.trans (hb5.mono HB.out.size))
      clear PI PE hb5 p0 p1 p2
      obtain ⟨p0, p1, p2⟩ := HBX.out w5 HB5.out
      by_cases hv : pi = 0
      · have t4b : ((pi : Int) == 0) = true := by rw [hv]; rfl
        have t4 : ((pi : Int) != 0) = false := by rw [hv]; rfl
        have HN := Lib.hid (HE0.out hv)
        clear HI0 HE0 hv HBX
        go_wp2_with fail
        refine PE5.out.mono ?_
        rintro e w7 ⟨rfl, hb7⟩
        have HB7 := Lib.hid (HB5.out.trans (hb7.mono HB5.out.size))
        clear PE5 hb7
        go_wp2_with fail
        go_ret
        exact ⟨by rw [HN.out] <;> rfl, HB0.out.trans (HB7.out.mono HB0.out.size)⟩
      · have t4b : ((pi : Int) == 0) = false := by rw [beq_eq_false_iff_ne]; omega
        have t4 : ((pi : Int) != 0) = true := by simp [bne, t4b]
        have HN := Lib.hid (HI0.out hv)
        clear HI0 HE0 hv HBX PE5
        go_wp2_with fail
        go_ret
        exact ⟨by rw [HN.out] <;> rfl, HB0.out.trans (HB5.out.mono HB0.out.size)⟩
end Go.Proofs.YtomecnncighkgaaGreatDoor
