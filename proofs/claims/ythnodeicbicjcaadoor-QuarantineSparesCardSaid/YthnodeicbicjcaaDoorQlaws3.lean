/- The walk over the law Ends. -/
import Derived.Test.YthnodeicbicjcaaDoorQlaws
namespace Go.Proofs.YthnodeicbicjcaaDoor
open Go.RowKit

theorem addF_ok {qs : List Qu} {name : ByteArray} {now len : Int} (h : (addF qs name now len).2 = 0) : 0 ≤ now ∧ now ≤ maxT ∧ 1 ≤ len ∧ len ≤ maxT := by
  unfold addF at h
  split at h
  · cases h
  · split at h
    · cases h
    · rename_i h2
      exact Decidable.of_not_not h2

theorem addF_bad {qs : List Qu} {name : ByteArray} {now len : Int} (h : (addF qs name now len).2 ≠ 0) : (addF qs name now len).1 = qs := by
  unfold addF at h ⊢
  split
  · rfl
  · split
    · rfl
    · rename_i h1 h2
      rw [if_neg h1, if_neg h2] at h
      split at h <;> exact (h rfl).elim

/-- what has been added is in force from now to its end -/
theorem addF_act {qs : List Qu} {name : ByteArray} {now len : Int} (h : (addF qs name now len).2 = 0) {t : Int} (h1 : now ≤ t) (h2 : t < endF now len) : (addF qs name now len).1.any (actF name t) = true := by
  have hok := addF_ok h
  unfold addF at h ⊢
  split at h
  · cases h
  · rename_i hp
    rw [if_neg hp, if_neg (by simpa using hok)]
    rcases firstF_cases (fun q => sameN q.name name) qs 0 with ⟨hf, _⟩ | ⟨k, hk, hf, hpk⟩
    · rw [hf]
      show (qs ++ [(⟨name, now, endF now len⟩ : Qu)]).any (actF name t) = true
      rw [List.any_append]
      simp only [List.any_cons, List.any_nil, Bool.or_false, Bool.or_eq_true]
      right
      unfold actF onF
      rw [show sameN name name = true from sameN_iff.2 rfl]
      simp [h1, h2]
    · rw [hf, Nat.zero_add]
      show (match qs[k]? with | some q => qs.set k (updF now (endF now len) q) | none => qs).any (actF name t) = true
      rw [List.getElem?_eq_getElem hk]
      show (qs.set k (updF now (endF now len) qs[k])).any (actF name t) = true
      rw [List.any_eq_true]
      refine ⟨updF now (endF now len) qs[k], List.mem_set hk _, ?_⟩
      unfold actF onF updF
      simp only at hpk ⊢
      rw [hpk, Bool.true_and, Bool.and_eq_true, decide_eq_true_eq, decide_eq_true_eq]
      constructor
      · unfold onF
        split
        · rename_i ho
          rw [Bool.and_eq_true, decide_eq_true_eq, decide_eq_true_eq] at ho
          omega
        · exact h1
      · omega

theorem addF_nil {name : ByteArray} {now len t : Int} (h : (addF [] name now len).2 = 0) (h2 : endF now len ≤ t) : (addF [] name now len).1.any (actF name t) = false := by
  have hok := addF_ok h
  unfold addF at h ⊢
  split at h
  · cases h
  · rename_i hp
    rw [if_neg hp, if_neg (by simpa using hok)]
    show ([⟨name, now, endF now len⟩] : List Qu).any (actF name t) = false
    simp only [List.any_cons, List.any_nil, Bool.or_false]
    unfold actF onF
    rw [Bool.eq_false_iff]
    intro h3
    rw [Bool.and_eq_true, Bool.and_eq_true, decide_eq_true_eq, decide_eq_true_eq] at h3
    have := h3.2.2
    simp only at this
    omega

theorem exp_any {qs : List Qu} {name : ByteArray} {now t : Int} (h : now ≤ t) : (qs.filter fun q => decide (now < q.til)).any (actF name t) = qs.any (actF name t) := by
  rw [List.any_filter]
  congr 1
  funext q
  by_cases h2 : now < q.til
  · simp [h2]
  · have : onF q t = false := by
      unfold onF
      rw [Bool.eq_false_iff]; intro h3
      rw [Bool.and_eq_true, decide_eq_true_eq, decide_eq_true_eq] at h3
      omega
    unfold actF
    rw [this]
    simp [h2]

set_option maxRecDepth 100000 in
set_option maxHeartbeats 1600000 in
theorem ends_law (v : Value) (qs : List Qu) (name : ByteArray) (now len later m : Int) (w : World) (h : QuAt w v qs) (hm : w.cell? ⟨0, 0, none⟩ = some (.int .i64 m)) (hg : 0 < w.heap.size) :
    Calls Tryd.prog 7 #[v, .string name, .agg #[.int .i64 now, .int .i64 len, .int .i64 later]] w (LawPost w) := by
  have LV := Lib.hid (lives_at hm hg)
  obtain ⟨ao, cap, rfl⟩ := h.form
  have H := Lib.hid h
  have HM := Lib.hid hm
  clear h hm
  have HB0 := Lib.hid ((Below.refl w.heap.size w).alloc (Nat.le_refl _) (.cells #[.int .i64 now, .int .i64 len, .int .i64 later] 42)).drew
  go_enter Tryd.func7, Tryd.ntmps7
  go_wp2_with fail
  go_region
  go_wp2_with fail
  generalize (w.alloc (.cells #[.int .i64 now, .int .i64 len, .int .i64 later] 42)).drew = w0 at *
  refine (few_any _ qs w0 (SlAt.below H.out HB0.out)).mono ?_
  rintro e w1 ⟨rfl, rfl⟩
  cases hf : fewF qs with
  | false =>
    clear hf
    go_wp2_with fail
    refine (LV.out _ HB0.out).mono ?_
    rintro e w9 ⟨rfl, hb⟩
    have HB := Lib.hid hb
    clear hb
    go_wp2_with fail
    go_ret
    exact ⟨rfl, HB.out⟩
  | true =>
    have hl := fewF_len hf
    clear hf
    by_cases hs : 1000 < name.size
    · have hsi : (1000 : Int) < (name.size : Int) := by omega
      go_wp2_with fail
      refine (LV.out _ HB0.out).mono ?_
      rintro e w9 ⟨rfl, hb⟩
      have HB := Lib.hid hb
      clear hb
      go_wp2_with fail
      go_ret
      exact ⟨rfl, HB.out⟩
    · have hsi : decide ((1000 : Int) < (name.size : Int)) = false := by simp; omega
      go_wp2_with fail
      refine (add_any _ qs (by omega) name now len m w1 (SlAt.below H.out HB0.out) ((HB0.out.cell (p := ⟨0, 0, none⟩) hg).trans HM.out) (Nat.lt_of_lt_of_le hg HB0.out.size)).mono ?_
      rintro e w2 ⟨v1, rfl, hq, hb⟩
      have HQ := Lib.hid hq
      have HB2 := Lib.hid (HB0.out.trans (hb.mono HB0.out.size))
      have H2 := Lib.hid (SlAt.below H.out HB2.out)
      have hal := addF_len qs name now len
      clear hq hb
      by_cases he : (addF qs name now len).2 = 0
      · obtain ⟨hn0, hn1, hl0, hl1⟩ := addF_ok he
        unfold maxT at hn1 hl1
        have HACT := Lib.hid (fun t h1 h2 => addF_act (t := t) he h1 h2)
        have HNIL : Hid (qs = [] → ∀ t, endF now len ≤ t → (addF qs name now len).1.any (actF name t) = false) := by
          rintro rfl t ht
          exact addF_nil he ht
        have HE : Hid (min (now + len) 1125899906842624 = endF now len) := rfl
        rw [he]
        clear he
        generalize (addF qs name now len).1 = x at *
        go_upto_region 8 with fail
        generalize min (now + len) 1125899906842624 = E at *
        rw [← HE.out] at HACT HNIL
        go_cut [65] (fun s wx => s = .bool false ∧ Below w.heap.size w wx ∧ QuAt wx v1 x)
        case first =>
          by_cases hE : now < E
          · have HA1 : Hid (x.any (actF name now) = true) := HACT.out now (by omega) hE
            have HA2 : Hid (x.any (actF name (E - 1)) = true) := HACT.out (E - 1) (by omega) (by omega)
            have hE63 : E ≤ 9223372036854775807 := by
              have := HE.out
              unfold endF maxT at this
              omega
            as_aux_lemma =>
            go_wp2_with fail
            refine (active_any v1 x (by omega) name now w2 HQ.out).mono ?_
            rintro e w3 ⟨rfl, hb⟩
            rw [HA1.out]
            have HB3 := Lib.hid (HB2.out.trans (hb.mono HB2.out.size))
            have HQ3 := Lib.hid (SlAt.below HQ.out hb)
            clear hb
            go_wp2_with fail
            refine (active_any v1 x (by omega) name (E - 1) w3 HQ3.out).mono ?_
            rintro e w4 ⟨rfl, hb⟩
            rw [HA2.out]
            have HB4 := Lib.hid (HB3.out.trans (hb.mono HB3.out.size))
            have HQ4 := Lib.hid (SlAt.below HQ3.out hb)
            clear hb
            go_wp2_with fail
            go_meet
            case rel => exact ⟨rfl, HB4.out, HQ4.out⟩
          · have hEf : decide (now < E) = false := by simp; omega
            as_aux_lemma =>
            go_wp2_with fail
            go_meet
            case rel => exact ⟨rfl, HB2.out, HQ.out⟩
        case rest =>
          obtain ⟨rfl, hb2, hq2⟩ := hcut
          have HB3 := Lib.hid hb2
          have HQ3 := Lib.hid hq2
          clear hb2 hq2
          go_upto_region 10 with fail
          go_cut [74] (fun s wx => s = .bool false ∧ Below w.heap.size w wx ∧ QuAt wx v1 x)
          case first =>
            by_cases h0 : qs.length = 0
            · have HA : Hid (x.any (actF name E) = false) := HNIL.out (List.length_eq_zero_iff.1 h0) E (Int.le_refl _)
              have t0 : ((qs.length : Int) == 0) = true := by simp [h0]
              clear h0
              as_aux_lemma =>
              go_wp2_with fail
              refine (active_any v1 x (by omega) name E wc HQ3.out).mono ?_
              rintro e w4 ⟨rfl, hb⟩
              rw [HA.out]
              have HB4 := Lib.hid (HB3.out.trans (hb.mono HB3.out.size))
              have HQ4 := Lib.hid (SlAt.below HQ3.out hb)
              clear hb
              go_wp2_with fail
              go_meet
              case rel => exact ⟨rfl, HB4.out, HQ4.out⟩
            · have t0 : ((qs.length : Int) == 0) = false := by rw [beq_eq_false_iff_ne]; omega
              as_aux_lemma =>
              go_wp2_with fail
              go_meet
              case rel => exact ⟨rfl, HB3.out, HQ3.out⟩
          case rest =>
            obtain ⟨rfl, hb2, hq2⟩ := hcut
            have HB4 := Lib.hid hb2
            have HQ4 := Lib.hid hq2
            clear hb2 hq2
            by_cases hlt : later < now
            · go_wp2_with fail
              refine (LV.out _ HB4.out).mono ?_
              rintro e w9 ⟨rfl, hb⟩
              have HB := Lib.hid hb
              clear hb
              go_wp2_with fail
              go_ret
              exact ⟨rfl, HB.out⟩
            · have hlt' : decide (later < now) = false := by simp; omega
              have HX : Hid ((x.filter fun q => decide (now < q.til)).any (actF name later) = x.any (actF name later)) := exp_any (by omega)
              have hfl : (x.filter fun q => decide (now < q.til)).length ≤ x.length := List.length_filter_le _ _
              go_wp2_with fail
              refine (expire_any now v1 x (by omega) wc HQ4.out).mono ?_
              rintro e w5 ⟨v2, rfl, hrow, hb⟩
              have HE5 := Lib.hid (QuRow.at hrow)
              have HB5 := Lib.hid (HB4.out.trans (hb.mono HB4.out.size))
              have HQ5 := Lib.hid (SlAt.below HQ4.out hb)
              clear hrow hb
              go_wp2_with fail
              refine (active_any v2 _ (by omega) name later w5 HE5.out).mono ?_
              rintro e w6 ⟨rfl, hb⟩
              rw [HX.out]
              have HB6 := Lib.hid (HB5.out.trans (hb.mono HB5.out.size))
              have HQ6 := Lib.hid (SlAt.below HQ5.out hb)
              clear hb
              generalize hbb : x.any (actF name later) = b
              have HBB := Lib.hid hbb
              have hself : (b == b) = true := by cases b <;> rfl
              clear hbb
              go_wp2_with fail
              refine (active_any v1 x (by omega) name later w6 HQ6.out).mono ?_
              rintro e w7 ⟨rfl, hb⟩
              rw [HBB.out]
              have HB7 := Lib.hid (HB6.out.trans (hb.mono HB6.out.size))
              clear hb
              go_wp2_with fail
              refine (LV.out _ HB7.out).mono ?_
              rintro e w9 ⟨rfl, hb⟩
              have HB := Lib.hid hb
              clear hb
              go_wp2_with fail
              go_ret
              exact ⟨rfl, HB.out⟩
      · have hx := addF_bad he
        rw [hx] at HQ
        have te : (((addF qs name now len).2 : Nat) : Int) != 0 := by rw [bne_iff_ne]; omega
        generalize (addF qs name now len).2 = en at *
        clear he hx hal
        go_wp2_with fail
        refine (same_any v1 _ qs (by omega) w2 HQ.out H2.out).mono ?_
        rintro e w3 ⟨rfl, hb⟩
        have HB3 := Lib.hid (HB2.out.trans (hb.mono HB2.out.size))
        clear hb
        go_wp2_with fail
        refine (LV.out _ HB3.out).mono ?_
        rintro e w9 ⟨rfl, hb⟩
        have HB := Lib.hid hb
        clear hb
        go_wp2_with fail
        go_ret
        exact ⟨rfl, HB.out⟩
end Go.Proofs.YthnodeicbicjcaaDoor
