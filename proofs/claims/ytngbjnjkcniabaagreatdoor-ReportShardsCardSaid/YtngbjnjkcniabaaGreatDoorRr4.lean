/- The walks over the reference's Same of results, Valid. -/
import Derived.Test.YtngbjnjkcniabaaGreatDoorRr1
import Derived.Test.YtngbjnjkcniabaaGreatDoorRp8
namespace Go.Proofs.YtngbjnjkcniabaaGreatDoor
open Go.RowKit

def SmRel (w1 : World) (xs : List Qu) (f : Nat) (t5 : Value) (wr : World) : Prop :=
  ∃ k : Nat, t5 = .int .i64 (k : Nat) ∧ k ≤ xs.length ∧ f = xs.length - k ∧ Below w1.heap.size w1 wr

set_option maxRecDepth 100000 in
set_option maxHeartbeats 800000 in
/-- a list is the same as itself -/
theorem same36_any (v u : Value) (qs : List Qu) (hn : qs.length ≤ 1000000) (w : World) (h : QuAt w v qs) (h2 : QuAt w u qs) :
    Calls Tryz.prog 12 #[v, u] w fun e w' => e = .returned (.bool true) ∧ Below w.heap.size w w' := by
  obtain ⟨ao, cap, rfl⟩ := h.form
  obtain ⟨bo, bcap, rfl⟩ := h2.form
  have H := Lib.hid h
  have H2 := Lib.hid h2
  clear h h2
  go_enter Tryz.func12, Tryz.ntmps12
  go_wp2_with fail
  go_loopg [5] qs.length (SmRel w qs)
  case atStart => exact ⟨0, rfl, Nat.zero_le _, rfl, Below.refl _ _⟩
  case round =>
    obtain ⟨k, rfl, hk, rfl, hbel⟩ := hrel
    have HB := Lib.hid hbel
    clear hbel
    by_cases hlt : k < qs.length
    · obtain ⟨b, off, rfl, hbl, c0, c1, c2⟩ := QuAt.at3 (SlAt.below H.out HB.out) hlt
      obtain ⟨b', off', rfl, hbl', d0, d1, d2⟩ := QuAt.at3 (SlAt.below H2.out HB.out) hlt
      have hii : (k : Int) < (qs.length : Int) := by omega
      generalize qs[k] = q at *
      go_wp2_with fail
      go_region
      go_wp2
      go_roundg (qs.length - (k + 1))
      case measure => omega
      case rel => exact ⟨k + 1, by go_num, by omega, rfl, HB.out.drew⟩
    · have hii : ¬ (k : Int) < (qs.length : Int) := by omega
      go_wp2_with fail
      go_ret
      exact ⟨rfl, HB.out⟩

/-- a slice's length is at most its capacity -/
def SlC (v : Value) : Prop := ∃ ao n cap, v = .slice ao n cap ∧ n ≤ cap
theorem SlC.le {ao : Option Addr} {n cap : Nat} (h : SlC (.slice ao n cap)) : n ≤ cap := by
  obtain ⟨a, b, c, e, h⟩ := h
  injection e with e1 e2 e3
  omega
theorem SlC.of_row {w : World} {base : Nat} {v : Value} {qs : List Qu} (h : TrRow w base v qs) : SlC v := by
  rcases h.2 with ⟨rfl, _⟩ | ⟨g, cap, cur, rfl, _, _, hn, _⟩
  · exact ⟨none, 0, 0, rfl, Nat.le_refl _⟩
  · exact ⟨_, _, _, rfl, hn⟩
theorem SlAt.take {w : World} {b off n cap : Nat} {xs : List Qu} (h : QuAt w (.slice (some ⟨b, off, none⟩) n cap) xs) {k : Nat} (hk : k ≤ xs.length) (hb : b < w.heap.size) : QuAt w (.slice (some ⟨b, off, none⟩) k cap) (xs.take k) := by
  by_cases h0 : k = 0
  · subst h0; exact .inl ⟨_, _, rfl, rfl⟩
  refine .inr ⟨b, off, cap, by rw [List.length_take, Nat.min_eq_left hk], hb, fun j hj m u hu => ?_⟩
  rw [List.length_take, Nat.min_eq_left hk] at hj
  rw [List.getElem_take] at hu
  obtain ⟨b', off', e, _, hc⟩ := SlAt.at_ h (show j < xs.length by omega)
  injection e with e
  injection e with e1 e2
  subst e1 e2
  exact hc m u hu

theorem wordB_empty (st : Int) : (wordB st).toList.isEmpty = decide (st < 1 ∨ 3 < st) := by
  rw [Lib.toList_data]
  unfold wordB
  by_cases h1 : st = 1
  · subst h1; decide
  · by_cases h2 : st = 2
    · subst h2; decide
    · by_cases h3 : st = 3
      · subst h3; decide
      · rw [if_neg h1, if_neg h2, if_neg h3, decide_eq_true (by omega)]; rfl

def RRVRel (w : World) (rs : List Qu) (f : Nat) (t3 : Value) (wr : World) : Prop :=
  ∃ k : Nat, t3 = .int .i64 (k : Nat) ∧ k ≤ rs.length ∧ f = rs.length - k ∧ vTo (rs.take k) (rs.drop k) = vTo [] rs ∧ Below w.heap.size w wr

set_option maxRecDepth 100000 in
set_option maxHeartbeats 3200000 in
theorem rvalid_any (v : Value) (rs : List Qu) (w : World) (h : QuAt w v rs) (hc : SlC v) :
    Calls Tryz.prog 16 #[v] w fun e w' => e = .returned (.int .i64 ((validR rs : Nat) : Int)) ∧ Below w.heap.size w w' := by
  obtain ⟨ao, cap, rfl⟩ := SlAt.form h
  have hcap := hc.le
  have H := Lib.hid h
  clear h hc
  go_enter Tryz.func16, Tryz.ntmps16
  by_cases hl : 4096 < rs.length
  · have hli : (4096 : Int) < (rs.length : Int) := by omega
    have HV : Hid (validR rs = 15) := by unfold Hid validR; rw [if_pos hl]
    as_aux_lemma =>
    go_wp2_with fail
    go_ret
    exact ⟨by rw [HV.out]; rfl, Below.refl _ _⟩
  · have hli : decide ((4096 : Int) < (rs.length : Int)) = false := decide_eq_false (by omega)
    have hln : decide (4096 < rs.length) = false := decide_eq_false hl
    have hl2 : rs.length ≤ 4096 := by omega
    have HV : Hid (validR rs = vTo [] rs) := by unfold Hid validR; rw [if_neg hl]
    clear hl
    go_wp2_with fail
    clear hli hln
    go_loopg [3] rs.length (RRVRel w rs)
    case atStart => exact ⟨0, rfl, Nat.zero_le _, rfl, rfl, Below.refl _ w⟩
    case round =>
      obtain ⟨k, rfl, hk, rfl, hv, hbr⟩ := hrel
      have HVT := Lib.hid hv
      have HBR := Lib.hid hbr
      have hbs := hbr.size
      clear hv hbr
      by_cases hlt : k < rs.length
      · obtain ⟨b, off, rfl, hbl, c0, c1, c2⟩ := QuAt.at3 (SlAt.below H.out HBR.out) hlt
        have hii : (k : Int) < (rs.length : Int) := by omega
        have HCX : Hid (∀ W, Below wr.heap.size wr W → W.cell? ⟨b, off + k * 3, none⟩ = some (.string rs[k].name) ∧ W.cell? ⟨b, off + k * 3 + 1, none⟩ = some (.int .i64 rs[k].since) ∧ W.cell? ⟨b, off + k * 3 + 2, none⟩ = some (.int .i64 rs[k].til)) := fun W hW =>
          ⟨(hW.cell (p := ⟨b, off + k * 3, none⟩) hbl).trans c0, (hW.cell (p := ⟨b, off + k * 3 + 1, none⟩) hbl).trans c1, (hW.cell (p := ⟨b, off + k * 3 + 2, none⟩) hbl).trans c2⟩
        have HAT := Lib.hid (SlAt.below H.out HBR.out)
        have HVA := Lib.hid ((vTo_at hlt).symm.trans HVT.out)
        have HTL := Lib.hid (fun W hW => SlAt.take (SlAt.below (w1 := W) HAT.out hW) (k := k) (by omega) (Nat.lt_of_lt_of_le hbl (Below.size hW)))
        generalize rs[k] = q at *
        have IP := Lib.hid (ispath_any q.name wr)
        by_cases hpf : partsF q.name.data.toList = 0
        · rw [decide_eq_true hpf] at IP
          go_wp2_with fail
          refine IP.out.mono ?_
          rintro e w3 ⟨rfl, hb⟩
          have HB3 := Lib.hid (HBR.out.trans (hb.mono hbs))
          obtain ⟨d0, d1, d2⟩ := HCX.out w3 hb
          have HW := Lib.hid (rword_any q.since w3)
          have hwe := wordB_empty q.since
          clear IP c0 c1 c2
          by_cases hst : q.since < 1 ∨ 3 < q.since
          · have HR : Hid (vTo [] rs = 1) := by unfold Hid; rw [← HVA.out, if_pos (.inr hst)]
            rw [decide_eq_true hst] at hwe
            clear hst HVA HVT hpf
            as_aux_lemma =>
            go_wp2_with fail
            refine HW.out.mono ?_
            rintro e w4 ⟨rfl, rfl⟩
            clear HW
            generalize wordB q.since = wb at *
            go_wp2_with fail
            go_ret
            exact ⟨by rw [HV.out, HR.out]; rfl, HB3.out⟩
          · have hnb : ¬ badR q := fun h => h.elim (fun h => h hpf) hst
            rw [if_neg hnb] at HVA
            rw [decide_eq_false hst] at hwe
            clear hst hpf hnb
            go_wp2_with fail
            refine HW.out.mono ?_
            rintro e w4 ⟨rfl, rfl⟩
            clear HW
            generalize wordB q.since = wb at *
            by_cases hrg : rangeR q
            · have HR : Hid (vTo [] rs = 2) := by unfold Hid; rw [← HVA.out, if_pos hrg]
              have HRG := Lib.hid hrg
              clear HVA HVT hrg
              by_cases h4 : q.til < 0
              · as_aux_lemma =>
                go_wp2_with fail
                go_ret
                exact ⟨by rw [HV.out, HR.out]; rfl, HB3.out⟩
              · have h5 : 1125899906842624 < q.til := HRG.out.resolve_left h4
                have t4 : decide (q.til < 0) = false := decide_eq_false h4
                clear h4
                as_aux_lemma =>
                go_wp2_with fail
                go_ret
                exact ⟨by rw [HV.out, HR.out]; rfl, HB3.out⟩
            · have hnr : ¬ q.til < 0 ∧ ¬ 1125899906842624 < q.til := ⟨fun h => hrg (.inl h), fun h => hrg (.inr h)⟩
              have t4 : decide (q.til < 0) = false := decide_eq_false hnr.1
              have t5 : decide (1125899906842624 < q.til) = false := decide_eq_false hnr.2
              rw [if_neg hrg] at HVA
              have HQ := fun nq => Lib.hid (Calls.quiet_of_same (has_any (.slice (some ⟨b, off, none⟩) k cap) (rs.take k) q.name (by rw [List.length_take]; omega) (w4.drewN nq) (HTL.out _ ⟨hb.os, hb.tape, hb.output, hb.size, hb.block⟩)))
              have hkc : k ≤ cap := by omega
              have hkci : (k : Int) ≤ (cap : Int) := by omega
              clear hrg hnr hb HCX HTL
              by_cases hin : q.name.data.toList ∈ (rs.take k).map (·.name.data.toList)
              · have HR : Hid (vTo [] rs = 7) := by unfold Hid; rw [← HVA.out, if_pos hin]
                simp only [decide_eq_true hin] at HQ
                clear HVA HVT hin
                go_upto_region 10 with fail
                go_quiet ((go_at_call 31; with_reducible exact (HQ _).out))
                go_wp2_with fail
                go_ret
                exact ⟨by rw [HV.out, HR.out]; rfl, HB3.out.trans ⟨rfl, rfl, rfl, Nat.le_refl _, fun _ _ => rfl⟩⟩
              · rw [if_neg hin] at HVA
                simp only [decide_eq_false hin] at HQ
                clear HVT hin
                go_upto_region 10 with fail
                go_quiet ((go_at_call 31; with_reducible exact (HQ _).out))
                go_wp2_with fail
                go_roundg (rs.length - (k + 1))
                case measure => omega
                case rel => exact ⟨k + 1, by go_num, by omega, rfl, HVA.out, HB3.out.trans ⟨rfl, rfl, rfl, Nat.le_refl _, fun _ _ => rfl⟩⟩
        · have HR : Hid (vTo [] rs = 1) := by unfold Hid; rw [← HVA.out, if_pos (.inl hpf)]
          rw [decide_eq_false hpf] at IP
          clear hpf HVA HVT
          as_aux_lemma =>
          go_wp2_with fail
          refine IP.out.mono ?_
          rintro e w3 ⟨rfl, hb⟩
          have HB3 := Lib.hid (HBR.out.trans (hb.mono hbs))
          clear hb IP
          go_wp2_with fail
          go_ret
          exact ⟨by rw [HV.out, HR.out]; rfl, HB3.out⟩
      · have he : k = rs.length := by omega
        subst he
        have HR : Hid (vTo [] rs = 0) := by unfold Hid; rw [← HVT.out, List.drop_length]; rfl
        as_aux_lemma =>
        go_wp2_with fail
        go_ret
        exact ⟨by rw [HV.out, HR.out]; rfl, HBR.out⟩
end Go.Proofs.YtngbjnjkcniabaaGreatDoor
