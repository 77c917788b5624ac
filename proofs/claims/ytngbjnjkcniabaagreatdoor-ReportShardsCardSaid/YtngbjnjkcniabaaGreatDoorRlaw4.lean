/- The walks over the laws ReportMerges and ReportShards. -/
import Derived.Test.YtngbjnjkcniabaaGreatDoorRlaw1
import Derived.Test.YtngbjnjkcniabaaGreatDoorRm3
import Derived.Test.YtngbjnjkcniabaaGreatDoorRm4
namespace Go.Proofs.YtngbjnjkcniabaaGreatDoor
open Go.RowKit

theorem mergeF_len (a b : List Qu) : (mergeF a b).length ≤ a.length + b.length := by
  unfold mergeF
  split
  · rw [(sortQ_perm _).length_eq, List.length_append]; exact Nat.le_refl _
  · exact Nat.zero_le _
theorem mergeF_mem {a b : List Qu} {q : Qu} (h : q ∈ mergeF a b) : q ∈ a ∨ q ∈ b := by
  unfold mergeF at h
  split at h
  · exact List.mem_append.1 ((sortQ_perm _).mem_iff.1 h)
  · cases h

set_option maxRecDepth 100000 in
set_option maxHeartbeats 3200000 in
theorem merges_law (va vb : Value) (a b : List Qu) (w : World) (hA : QuAt w va a) (hsa : ∀ q ∈ a, q.name.size ≤ 9223372036854775807) (hCA : SlC va) (hB : QuAt w vb b) (hsb : ∀ q ∈ b, q.name.size ≤ 9223372036854775807) (hCB : SlC vb) (hBS : Base36 w) :
    Calls Tryz.prog 7 #[va, vb] w (LawPost w) := by
  have LV := Lib.hid (lives_at hBS)
  have HBA := Lib.hid hBS
  have HA := Lib.hid hA
  have HB := Lib.hid hB
  have HCA := Lib.hid hCA
  have HCB := Lib.hid hCB
  have HSA := Lib.hid hsa
  have HSB := Lib.hid hsb
  clear hA hB hsa hsb hCA hCB hBS
  have FA := fun W hW => Lib.hid (few_any va a W (SlAt.below HA.out (w1 := W) hW))
  have FB := fun W hW => Lib.hid (few_any vb b W (SlAt.below HB.out (w1 := W) hW))
  go_enter Tryz.func7, Tryz.ntmps7
  have FA0 := FA w (Below.refl _ _)
  go_wp2_with fail
  refine FA0.out.mono ?_
  rintro e w1 ⟨rfl, rfl⟩
  clear FA0
  cases hfa : fewF a with
  | false =>
    clear hfa
    go_wp2_with fail
    refine (LV.out _ (Below.refl _ _)).mono ?_
    rintro e w9 ⟨rfl, hb⟩
    have HX := Lib.hid hb
    clear hb
    go_wp2_with fail
    go_ret
    exact ⟨rfl, HX.out⟩
  | true =>
  have FB0 := FB _ (Below.refl _ _)
  go_wp2_with fail
  refine FB0.out.mono ?_
  rintro e w1 ⟨rfl, rfl⟩
  clear FB0
  cases hfb : fewF b with
  | false =>
    clear hfb hfa
    go_wp2_with fail
    refine (LV.out _ (Below.refl _ _)).mono ?_
    rintro e w9 ⟨rfl, hb⟩
    have HX := Lib.hid hb
    clear hb
    go_wp2_with fail
    go_ret
    exact ⟨rfl, HX.out⟩
  | true =>
  have hla : a.length ≤ 60 := (fewF_all hfa).1
  have hlb : b.length ≤ 60 := (fewF_all hfb).1
  clear hfa hfb FA FB
  go_wp2_with fail
  refine (merge_any va vb a b (by omega) (by omega) HSA.out HSB.out w1 HA.out HB.out HBA.out).mono ?_
  rintro e w2 ⟨v2, rfl, hq2, _, hb⟩
  have HB2 := Lib.hid hb
  have HQ2 := Lib.hid hq2
  clear hb hq2
  go_wp2_with fail
  refine (rmerge_any va vb a b (by omega) (by omega) HSA.out HSB.out w2 (SlAt.below HA.out HB2.out) (SlAt.below HB.out HB2.out) HCA.out HCB.out).mono ?_
  rintro e w3 ⟨v3, rfl, hq3, _, hb⟩
  have HB3 := Lib.hid (HB2.out.trans (hb.mono HB2.out.size))
  have HQ3 := Lib.hid hq3
  have HQ23 := Lib.hid (SlAt.below HQ2.out hb)
  clear hb hq3
  go_wp2_with fail
  refine (merge_any vb va b a (by omega) (by omega) HSB.out HSA.out w3 (SlAt.below HB.out HB3.out) (SlAt.below HA.out HB3.out) (HBA.out.below HB3.out)).mono ?_
  rintro e w4 ⟨v4, rfl, hq4, _, hb⟩
  have HB4 := Lib.hid (HB3.out.trans (hb.mono HB3.out.size))
  have HQ4 := Lib.hid hq4
  have HQ24 := Lib.hid (SlAt.below HQ23.out hb)
  have HQ34 := Lib.hid (SlAt.below HQ3.out hb)
  clear hb hq4
  obtain ⟨hz, hsw⟩ := merge_swap a b
  rw [← hsw] at HQ4
  have hml := mergeF_len a b
  generalize mergeF a b = ms at *
  go_wp2_with fail
  refine (same36_any v2 v3 ms (by omega) w4 HQ24.out HQ34.out).mono ?_
  rintro e w5 ⟨rfl, hb⟩
  have HB5 := Lib.hid (HB4.out.trans (hb.mono HB4.out.size))
  have HQ25 := Lib.hid (SlAt.below HQ24.out hb)
  have HQ45 := Lib.hid (SlAt.below HQ4.out hb)
  clear hb hsw
  by_cases h0 : mergeE a b = 0
  · rw [h0, hz.1 h0]
    clear h0 hz
    go_wp2_with fail
    refine (same36_any v2 v4 ms (by omega) w5 HQ25.out HQ45.out).mono ?_
    rintro e w6 ⟨rfl, hb⟩
    have HB6 := Lib.hid (HB5.out.trans (hb.mono HB5.out.size))
    clear hb
    go_wp2_with fail
    refine (LV.out _ HB6.out).mono ?_
    rintro e w9 ⟨rfl, hb⟩
    have HX := Lib.hid hb
    clear hb
    go_wp2_with fail
    go_ret
    exact ⟨rfl, HX.out⟩
  · have t1 : (((mergeE a b : Nat) : Int) == 0) = false := by rw [beq_eq_false_iff_ne]; omega
    have t2 : (((mergeE b a : Nat) : Int) == 0) = false := by
      rw [beq_eq_false_iff_ne]
      intro e
      exact h0 (hz.2 (by omega))
    clear h0 hz
    generalize mergeE a b = e1 at *
    generalize mergeE b a = e2 at *
    go_wp2_with fail
    refine (same36_any v2 v4 ms (by omega) w5 HQ25.out HQ45.out).mono ?_
    rintro e w6 ⟨rfl, hb⟩
    have HB6 := Lib.hid (HB5.out.trans (hb.mono HB5.out.size))
    clear hb
    go_wp2_with fail
    refine (LV.out _ HB6.out).mono ?_
    rintro e w9 ⟨rfl, hb⟩
    have HX := Lib.hid hb
    clear hb
    go_wp2_with fail
    go_ret
    exact ⟨rfl, HX.out⟩

set_option maxRecDepth 100000 in
set_option maxHeartbeats 3200000 in
theorem shards_law (va vb vc : Value) (a b c : List Qu) (w : World) (hA : QuAt w va a) (hsa : ∀ q ∈ a, q.name.size ≤ 9223372036854775807) (hB : QuAt w vb b) (hsb : ∀ q ∈ b, q.name.size ≤ 9223372036854775807) (hC : QuAt w vc c) (hsc : ∀ q ∈ c, q.name.size ≤ 9223372036854775807) (hBS : Base36 w) :
    Calls Tryz.prog 8 #[va, vb, vc] w (LawPost w) := by
  have LV := Lib.hid (lives_at hBS)
  have HBA := Lib.hid hBS
  have HA := Lib.hid hA
  have HB := Lib.hid hB
  have HC := Lib.hid hC
  have HSA := Lib.hid hsa
  have HSB := Lib.hid hsb
  have HSC := Lib.hid hsc
  have FA0 := Lib.hid (few_any va a w hA)
  have FB0 := Lib.hid (few_any vb b w hB)
  have FC0 := Lib.hid (few_any vc c w hC)
  obtain ⟨ao, acap, rfl⟩ := SlAt.form hA
  obtain ⟨bo, bcap, rfl⟩ := SlAt.form hB
  obtain ⟨co, ccap, rfl⟩ := SlAt.form hC
  clear hA hB hC hsa hsb hsc hBS
  go_enter Tryz.func8, Tryz.ntmps8
  go_wp2_with fail
  refine FA0.out.mono ?_
  rintro e w1 ⟨rfl, rfl⟩
  clear FA0
  cases hfa : fewF a with
  | false =>
    clear hfa
    go_wp2_with fail
    refine (LV.out _ (Below.refl _ _)).mono ?_
    rintro e w9 ⟨rfl, hb⟩
    have HX := Lib.hid hb
    clear hb
    go_wp2_with fail
    go_ret
    exact ⟨rfl, HX.out⟩
  | true =>
  go_wp2_with fail
  refine FB0.out.mono ?_
  rintro e w1 ⟨rfl, rfl⟩
  clear FB0
  cases hfb : fewF b with
  | false =>
    clear hfb hfa
    go_wp2_with fail
    refine (LV.out _ (Below.refl _ _)).mono ?_
    rintro e w9 ⟨rfl, hb⟩
    have HX := Lib.hid hb
    clear hb
    go_wp2_with fail
    go_ret
    exact ⟨rfl, HX.out⟩
  | true =>
  go_wp2_with fail
  refine FC0.out.mono ?_
  rintro e w1 ⟨rfl, rfl⟩
  clear FC0
  cases hfc : fewF c with
  | false =>
    clear hfb hfa hfc
    go_wp2_with fail
    refine (LV.out _ (Below.refl _ _)).mono ?_
    rintro e w9 ⟨rfl, hb⟩
    have HX := Lib.hid hb
    clear hb
    go_wp2_with fail
    go_ret
    exact ⟨rfl, HX.out⟩
  | true =>
  have hla : a.length ≤ 60 := (fewF_all hfa).1
  have hlb : b.length ≤ 60 := (fewF_all hfb).1
  have hlc : c.length ≤ 60 := (fewF_all hfc).1
  clear hfa hfb hfc
  go_wp2_with fail
  refine (merge_any _ _ a b (by omega) (by omega) HSA.out HSB.out w1 HA.out HB.out HBA.out).mono ?_
  rintro e w2 ⟨v2, rfl, hq2, _, hb⟩
  have HB2 := Lib.hid hb
  have HQ2 := Lib.hid hq2
  clear hb hq2
  go_wp2_with fail
  refine (merge_any _ _ b c (by omega) (by omega) HSB.out HSC.out w2 (SlAt.below HB.out HB2.out) (SlAt.below HC.out HB2.out) (HBA.out.below HB2.out)).mono ?_
  rintro e w3 ⟨v3, rfl, hq3, _, hb⟩
  have HB3 := Lib.hid (HB2.out.trans (hb.mono HB2.out.size))
  have HQ3 := Lib.hid hq3
  have HQ23 := Lib.hid (SlAt.below HQ2.out hb)
  clear hb hq3
  by_cases h1 : mergeE a b = 0
  · by_cases h2 : mergeE b c = 0
    · have HTH := Lib.hid (merge_three a b c h1 h2)
      have hl1 := mergeF_len a b
      have hl2 := mergeF_len b c
      have HS1 : Hid (∀ q ∈ mergeF a b, q.name.size ≤ 9223372036854775807) := fun q hq => (mergeF_mem hq).elim (HSA.out q) (HSB.out q)
      have HS2 : Hid (∀ q ∈ mergeF b c, q.name.size ≤ 9223372036854775807) := fun q hq => (mergeF_mem hq).elim (HSB.out q) (HSC.out q)
      rw [h1, h2]
      clear h1 h2
      generalize mergeF a b = x at *
      generalize mergeF b c = y at *
      go_wp2_with fail
      refine (merge_any v2 _ x c (by omega) (by omega) HS1.out HSC.out w3 HQ23.out (SlAt.below HC.out HB3.out) (HBA.out.below HB3.out)).mono ?_
      rintro e w4 ⟨v4, rfl, hq4, _, hb⟩
      have HB4 := Lib.hid (HB3.out.trans (hb.mono HB3.out.size))
      have HQ4 := Lib.hid hq4
      have HQ34 := Lib.hid (SlAt.below HQ3.out hb)
      clear hb hq4
      go_wp2_with fail
      refine (merge_any _ v3 a y (by omega) (by omega) HSA.out HS2.out w4 (SlAt.below HA.out HB4.out) HQ34.out (HBA.out.below HB4.out)).mono ?_
      rintro e w5 ⟨v5, rfl, hq5, _, hb⟩
      have HB5 := Lib.hid (HB4.out.trans (hb.mono HB4.out.size))
      have HQ5 := Lib.hid hq5
      have HQ45 := Lib.hid (SlAt.below HQ4.out hb)
      clear hb hq5
      obtain ⟨hz, hfe, hln⟩ := HTH.out
      rw [← hfe] at HQ5
      have hl3 := mergeF_len x c
      have HLN := Lib.hid hln
      clear HTH hln hfe
      generalize hms : mergeF x c = ms at *
      clear hms
      obtain ⟨o4, c4, rfl⟩ := SlAt.form HQ45.out
      by_cases h0 : mergeE x c = 0
      · have hlm : ms.length = a.length + b.length + c.length := HLN.out h0
        have q1 : IntKind.i64.wrap ((a.length : Int) + (b.length : Int)) = (a.length : Int) + (b.length : Int) := IntWalk.i64_in _ (by omega)
        have hlt : ((ms.length : Int) == (a.length : Int) + (b.length : Int) + (c.length : Int)) = true := by rw [beq_iff_eq]; omega
        have SM := Lib.hid (same36_any (.slice o4 ms.length c4) v5 ms (by omega) w5 HQ45.out HQ5.out)
        have hm180 : ms.length ≤ 180 := by omega
        rw [h0, hz.1 h0]
        clear h0 hz hlm HLN hl1 hl2 hl3
        generalize ms.length = ml at *
        go_wp2_with fail
        refine SM.out.mono ?_
        rintro e w6 ⟨rfl, hb⟩
        have HB6 := Lib.hid (HB5.out.trans (hb.mono HB5.out.size))
        clear hb SM
        go_wp2_with fail
        refine (LV.out _ HB6.out).mono ?_
        rintro e w9 ⟨rfl, hb⟩
        have HX := Lib.hid hb
        clear hb
        go_wp2_with fail
        go_ret
        exact ⟨rfl, HX.out⟩
      · have t1 : (((mergeE x c : Nat) : Int) == 0) = false := by rw [beq_eq_false_iff_ne]; omega
        have t1' : (((mergeE x c : Nat) : Int) != 0) = true := by rw [bne_iff_ne]; omega
        have t2 : (((mergeE a y : Nat) : Int) == 0) = false := by
          rw [beq_eq_false_iff_ne]
          intro e
          exact h0 (hz.2 (by omega))
        have SM := Lib.hid (same36_any (.slice o4 ms.length c4) v5 ms (by omega) w5 HQ45.out HQ5.out)
        clear h0 hz HLN hl1 hl2 hl3
        generalize mergeE x c = e1 at *
        generalize mergeE a y = e2 at *
        generalize ms.length = ml at *
        go_wp2_with fail
        refine SM.out.mono ?_
        rintro e w6 ⟨rfl, hb⟩
        have HB6 := Lib.hid (HB5.out.trans (hb.mono HB5.out.size))
        clear hb SM
        go_wp2_with fail
        refine (LV.out _ HB6.out).mono ?_
        rintro e w9 ⟨rfl, hb⟩
        have HX := Lib.hid hb
        clear hb
        go_wp2_with fail
        go_ret
        exact ⟨rfl, HX.out⟩
    · have t2 : (((mergeE b c : Nat) : Int) != 0) = true := by rw [bne_iff_ne]; omega
      rw [h1]
      clear h1 h2
      generalize mergeE b c = e2 at *
      go_wp2_with fail
      refine (LV.out _ HB3.out).mono ?_
      rintro e w9 ⟨rfl, hb⟩
      have HX := Lib.hid hb
      clear hb
      go_wp2_with fail
      go_ret
      exact ⟨rfl, HX.out⟩
  · have t1 : (((mergeE a b : Nat) : Int) != 0) = true := by rw [bne_iff_ne]; omega
    clear h1
    generalize mergeE a b = e1 at *
    generalize mergeE b c = e2 at *
    go_wp2_with fail
    refine (LV.out _ HB3.out).mono ?_
    rintro e w9 ⟨rfl, hb⟩
    have HX := Lib.hid hb
    clear hb
    go_wp2_with fail
    go_ret
    exact ⟨rfl, HX.out⟩
end Go.Proofs.YtngbjnjkcniabaaGreatDoor
