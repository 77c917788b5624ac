/- The walks over the reference's names, lists and Compare. -/
import Derived.Test.YtbndgmbjfgmdnaaGreatDoorVp1
import Derived.Test.YtbndgmbjfgmdnaaGreatDoorVb3
import Derived.StillTailTactics
namespace Go.Proofs.YtbndgmbjfgmdnaaGreatDoor
open Go.RowKit

def RkRel (L M : List ByteArray) (w1 : World) (f : Nat) (t5 : Value) (wr : World) : Prop :=
  ∃ i : Nat, t5 = .int .i64 (i : Nat) ∧ i ≤ L.length ∧ i ≤ M.length ∧ f = L.length - i ∧ keyC L M = lexC (fun x y : ByteArray => natC x.data.toList y.data.toList) (L.drop i) (M.drop i) ∧ Below w1.heap.size w1 wr

set_option maxRecDepth 100000 in
set_option maxHeartbeats 3200000 in
theorem rnames_any (L M : List ByteArray) (lo mo : Option Addr) (lc mc : Nat) (hl : L.length ≤ 9223372036854775807) (hsl : ∀ x ∈ L, x.size ≤ 9223372036854775807) (hsm : ∀ x ∈ M, x.size ≤ 9223372036854775807) (w : World)
    (hL : StrsAt w (.slice lo L.length lc) L) (hM : StrsAt w (.slice mo M.length mc) M) :
    Calls Tryz.prog 41 #[.slice lo L.length lc, .slice mo M.length mc] w fun e w' => e = .returned (.int .i64 (keyC L M)) ∧ Below w.heap.size w w' := by
  have HL := Lib.hid hL
  have HM := Lib.hid hM
  have HSL := Lib.hid hsl
  have HSM := Lib.hid hsm
  have HK0 := Lib.hid (keyC_def L M)
  clear hL hM hsl hsm
  go_enter Tryz.func41, Tryz.ntmps41
  go_wp2_with fail
  go_loopg [5] L.length (RkRel L M w)
  case atStart => exact ⟨0, rfl, Nat.zero_le _, Nat.zero_le _, rfl, by rw [HK0.out]; rfl, Below.refl _ w⟩
  case round =>
    obtain ⟨i, rfl, hi, him, rfl, hlx, hbel⟩ := hrel
    have HLX := Lib.hid hlx
    have HB := Lib.hid hbel
    clear hlx hbel
    have SG := fun b W => Lib.hid (sign_any b W)
    by_cases hlt : i < L.length
    · have hii : (i : Int) < (L.length : Int) := by omega
      by_cases hlm : i < M.length
      · obtain ⟨b1, o1, rfl, _, hc1⟩ := (HL.out.below HB.out).at_ hlt
        rw [getD_at hlt] at hc1
        obtain ⟨b2, o2, rfl, _, hc2⟩ := (HM.out.below HB.out).at_ hlm
        rw [getD_at hlm] at hc2
        have HST := Lib.hid (lexC_step (C := fun x y : ByteArray => natC x.data.toList y.data.toList) hlt hlm)
        have him2 : (i : Int) < (M.length : Int) := by omega
        have CC := fun W => Lib.hid (rcompare_any L[i] M[i] (HSL.out _ (List.getElem_mem hlt)) (HSM.out _ (List.getElem_mem hlm)) W)
        have hrg := natC_po.rng (L[i]).data.toList (M[i]).data.toList
        generalize L[i] = x at *
        generalize M[i] = y at *
        generalize natC x.data.toList y.data.toList = q at *
        have HRG := Lib.hid hrg
        clear hrg
        as_aux_lemma =>
        go_upto_region 4 with fail
        go_still_tail 8, (by kernel_rfl)
        change wpList _ _ _ _ _ (World.drew _)
        go_wp2_with fail
        refine (CC _).out.mono ?_
        rintro e w5 ⟨rfl, hu⟩
        have HB5 := Lib.hid (HB.out.trans ((Below.refl wr.heap.size wr).drew.trans (hu.b.mono (Nat.le_refl _)) |>.mono HB.out.size))
        clear hu CC hc1 hc2
        by_cases hq : q = 0
        · have t1 : (q == 0) = true := by rw [hq]; rfl
          have t1b : (q != 0) = false := by rw [hq]; rfl
          have HN : Hid (keyC L M = lexC (fun x y : ByteArray => natC x.data.toList y.data.toList) (L.drop (i + 1)) (M.drop (i + 1))) := by unfold Hid; rw [HLX.out, HST.out, if_pos hq]
          clear hq HST HLX
          as_aux_lemma =>
          go_wp2_with fail
          go_roundg (L.length - (i + 1))
          case measure => omega
          case rel => exact ⟨i + 1, by go_num, by omega, by omega, rfl, HN.out, HB5.out⟩
        · have t1 : (q == 0) = false := by rw [beq_eq_false_iff_ne]; exact hq
          have t1b : (q != 0) = true := by simp [bne, t1]
          have HN : Hid (keyC L M = q) := by unfold Hid; rw [HLX.out, HST.out, if_neg hq]
          have hq2 : q = -1 ∨ q = 1 := by rcases HRG.out with h | h | h <;> omega
          clear hq HST HLX HRG
          rcases hq2 with rfl | rfl
          · as_aux_lemma =>
            go_wp2_with fail
            refine (SG _ _).out.mono ?_
            rintro e w6 ⟨rfl, hw⟩
            rw [hw]
            clear hw w6
            go_wp2_with fail
            go_ret
            exact ⟨by rw [HN.out] <;> rfl, HB5.out⟩
          · as_aux_lemma =>
            go_wp2_with fail
            refine (SG _ _).out.mono ?_
            rintro e w6 ⟨rfl, hw⟩
            rw [hw]
            clear hw w6
            go_wp2_with fail
            go_ret
            exact ⟨by rw [HN.out] <;> rfl, HB5.out⟩
      · have him2 : decide ((i : Int) < (M.length : Int)) = false := decide_eq_false (by omega)
        have tn : ((L.length : Int) == (M.length : Int)) = false := by rw [beq_eq_false_iff_ne]; omega
        have tn2 : decide ((L.length : Int) < (M.length : Int)) = false := decide_eq_false (by omega)
        have tn2n : decide (L.length < M.length) = false := decide_eq_false (by omega)
        have HN : Hid (keyC L M = 1) := by unfold Hid; rw [HLX.out, lexC_over hlt (by omega)]
        clear HLX
        generalize L.length = ll at *
        generalize M.length = ml at *
        as_aux_lemma =>
        go_wp2_with fail
        refine (SG _ _).out.mono ?_
        rintro e w6 ⟨rfl, hw⟩
        rw [hw]
        clear hw w6
        go_wp2_with fail
        go_ret
        exact ⟨by rw [HN.out] <;> rfl, HB.out⟩
    · have hii : decide ((i : Int) < (L.length : Int)) = false := decide_eq_false (by omega)
      have he : i = L.length := by omega
      have HE : Hid (keyC L M = if L.length < M.length then -1 else 0) := by unfold Hid; rw [HLX.out, he, lexC_end]
      clear HLX
      by_cases hm : L.length < M.length
      · have tn : ((L.length : Int) == (M.length : Int)) = false := by rw [beq_eq_false_iff_ne]; omega
        have tn2 : decide ((L.length : Int) < (M.length : Int)) = true := decide_eq_true (by omega)
        have tn2n : decide (L.length < M.length) = true := decide_eq_true (by omega)
        have HN : Hid (keyC L M = -1) := by unfold Hid; rw [HE.out, if_pos hm]
        clear HE he
        generalize L.length = ll at *
        generalize M.length = ml at *
        as_aux_lemma =>
        go_wp2_with fail
        refine (SG _ _).out.mono ?_
        rintro e w6 ⟨rfl, hw⟩
        rw [hw]
        clear hw w6
        go_wp2_with fail
        go_ret
        exact ⟨by rw [HN.out] <;> rfl, HB.out⟩
      · have tn : ((L.length : Int) == (M.length : Int)) = true := by rw [beq_iff_eq]; omega
        have HN : Hid (keyC L M = 0) := by unfold Hid; rw [HE.out, if_neg hm]
        clear HE he
        generalize L.length = ll at *
        generalize M.length = ml at *
        as_aux_lemma =>
        go_wp2_with fail
        go_ret
        exact ⟨by rw [HN.out] <;> rfl, HB.out⟩

/-! ### lists of values -/
def RcmpCalls (x : VT) : Prop := ∀ (y : VT), y.wf → ∀ cs cs' W, VCell W x cs → VCell W y cs' → Calls Tryz.prog 16 #[.agg cs.toArray, .agg cs'.toArray] W fun e w' => e = .returned (.int .i64 (cmpV x y)) ∧ Below W.heap.size W w'
def RvRel (L M : List VT) (w1 : World) (f : Nat) (t5 : Value) (wr : World) : Prop :=
  ∃ i : Nat, t5 = .int .i64 (i : Nat) ∧ i ≤ L.length ∧ i ≤ M.length ∧ f = L.length - i ∧ lexC cmpV L M = lexC cmpV (L.drop i) (M.drop i) ∧ Below w1.heap.size w1 wr

set_option maxRecDepth 100000 in
set_option maxHeartbeats 3200000 in
theorem rlists_any (L M : List VT) (lo mo : Option Addr) (lc mc : Nat) (hl : L.length ≤ 9223372036854775807) (hwf : ∀ y ∈ M, y.wf) (ih : ∀ x ∈ L, RcmpCalls x) (w : World)
    (hL : VList w L (.slice lo L.length lc)) (hM : VList w M (.slice mo M.length mc)) :
    Calls Tryz.prog 40 #[.slice lo L.length lc, .slice mo M.length mc] w fun e w' => e = .returned (.int .i64 (lexC cmpV L M)) ∧ Below w.heap.size w w' := by
  have HL := Lib.hid hL
  have HM := Lib.hid hM
  have HWF := Lib.hid hwf
  have IH := Lib.hid ih
  clear hL hM hwf ih
  go_enter Tryz.func40, Tryz.ntmps40
  go_wp2_with fail
  go_loopg [5] L.length (RvRel L M w)
  case atStart => exact ⟨0, rfl, Nat.zero_le _, Nat.zero_le _, rfl, rfl, Below.refl _ w⟩
  case round =>
    obtain ⟨i, rfl, hi, him, rfl, hlx, hbel⟩ := hrel
    have HLX := Lib.hid hlx
    have HB := Lib.hid hbel
    clear hlx hbel
    have SG := fun b W => Lib.hid (sign_any b W)
    have HA : Hid (Below wr.heap.size wr wr.drew) := (Below.refl _ wr).drew
    by_cases hlt : i < L.length
    · have hii : (i : Int) < (L.length : Int) := by omega
      by_cases hlm : i < M.length
      · obtain ⟨b1, o1, ce, rfl, hb1, hce, hvc⟩ := (HL.out.below HB.out).at hlt
        obtain ⟨k1, c1, n1, s1, lo1, ln1, lc1, ko1, kn1, kc1, rfl⟩ := vcell_slices0 hvc
        have HVC := Lib.hid hvc
        have e0 := hce 0 _ rfl
        have e1 := hce 1 _ rfl
        have e2 := hce 2 _ rfl
        have e3 := hce 3 _ rfl
        have e4 := hce 4 _ rfl
        have e5 := hce 5 _ rfl
        rw [Nat.add_zero] at e0
        clear hce hvc
        obtain ⟨b2, o2, cf, rfl, hb2, hcf, hvd⟩ := (HM.out.below HB.out).at hlm
        obtain ⟨k2, c2, n2, s2, lo2, ln2, lc2, ko2, kn2, kc2, rfl⟩ := vcell_slices0 hvd
        have HVD := Lib.hid hvd
        have f0 := hcf 0 _ rfl
        have f1 := hcf 1 _ rfl
        have f2 := hcf 2 _ rfl
        have f3 := hcf 3 _ rfl
        have f4 := hcf 4 _ rfl
        have f5 := hcf 5 _ rfl
        rw [Nat.add_zero] at f0
        clear hcf hvd
        have HST := Lib.hid (lexC_step (C := cmpV) hlt hlm)
        have him2 : (i : Int) < (M.length : Int) := by omega
        have CC := Lib.hid (IH.out _ (List.getElem_mem hlt) _ (HWF.out _ (List.getElem_mem hlm)))
        unfold RcmpCalls at CC
        have HRG := Lib.hid (cmpV_rng L[i] M[i])
        generalize L[i] = x at *
        generalize M[i] = y at *
        as_aux_lemma =>
        go_upto_region 4 with fail
        go_still_tail 8, (by kernel_rfl)
        change wpList _ _ _ _ _ (World.drew _)
        go_wp2_with fail
        refine (CC.out _ _ _ (VCell.below HA.out _ _ HVC.out) (VCell.below HA.out _ _ HVD.out)).mono ?_
        rintro e w5 ⟨rfl, hu⟩
        have HB5 := Lib.hid (HB.out.trans ((HA.out.trans (hu.mono HA.out.size)).mono HB.out.size))
        clear hu CC HVC HVD e0 e1 e2 e3 e4 e5 f0 f1 f2 f3 f4 f5
        generalize cmpV x y = q at *
        by_cases hq : q = 0
        · have t1 : (q == 0) = true := by rw [hq]; rfl
          have t1b : (q != 0) = false := by rw [hq]; rfl
          have HN : Hid (lexC cmpV L M = lexC cmpV (L.drop (i + 1)) (M.drop (i + 1))) := by unfold Hid; rw [HLX.out, HST.out, if_pos hq]
          clear hq HST HLX
          as_aux_lemma =>
          go_wp2_with fail
          go_roundg (L.length - (i + 1))
          case measure => omega
          case rel => exact ⟨i + 1, by go_num, by omega, by omega, rfl, HN.out, HB5.out⟩
        · have t1 : (q == 0) = false := by rw [beq_eq_false_iff_ne]; exact hq
          have t1b : (q != 0) = true := by simp [bne, t1]
          have HN : Hid (lexC cmpV L M = q) := by unfold Hid; rw [HLX.out, HST.out, if_neg hq]
          clear hq HST HLX HRG
          as_aux_lemma =>
          go_wp2_with fail
          go_ret
          exact ⟨by rw [HN.out] <;> rfl, HB5.out⟩
      · have him2 : decide ((i : Int) < (M.length : Int)) = false := decide_eq_false (by omega)
        have tn : ((L.length : Int) == (M.length : Int)) = false := by rw [beq_eq_false_iff_ne]; omega
        have tn2 : decide ((L.length : Int) < (M.length : Int)) = false := decide_eq_false (by omega)
        have tn2n : decide (L.length < M.length) = false := decide_eq_false (by omega)
        have HN : Hid (lexC cmpV L M = 1) := by unfold Hid; rw [HLX.out, lexC_over hlt (by omega)]
        clear HLX
        generalize L.length = ll at *
        generalize M.length = ml at *
        as_aux_lemma =>
        go_wp2_with fail
        refine (SG _ _).out.mono ?_
        rintro e w6 ⟨rfl, hw⟩
        rw [hw]
        clear hw w6
        go_wp2_with fail
        go_ret
        exact ⟨by rw [HN.out] <;> rfl, HB.out⟩
    · have hii : decide ((i : Int) < (L.length : Int)) = false := decide_eq_false (by omega)
      have he : i = L.length := by omega
      have HE : Hid (lexC cmpV L M = if L.length < M.length then -1 else 0) := by unfold Hid; rw [HLX.out, he, lexC_end]
      clear HLX
      by_cases hm : L.length < M.length
      · have tn : ((L.length : Int) == (M.length : Int)) = false := by rw [beq_eq_false_iff_ne]; omega
        have tn2 : decide ((L.length : Int) < (M.length : Int)) = true := decide_eq_true (by omega)
        have tn2n : decide (L.length < M.length) = true := decide_eq_true (by omega)
        have HN : Hid (lexC cmpV L M = -1) := by unfold Hid; rw [HE.out, if_pos hm]
        clear HE he
        generalize L.length = ll at *
        generalize M.length = ml at *
        as_aux_lemma =>
        go_wp2_with fail
        refine (SG _ _).out.mono ?_
        rintro e w6 ⟨rfl, hw⟩
        rw [hw]
        clear hw w6
        go_wp2_with fail
        go_ret
        exact ⟨by rw [HN.out] <;> rfl, HB.out⟩
      · have tn : ((L.length : Int) == (M.length : Int)) = true := by rw [beq_iff_eq]; omega
        have HN : Hid (lexC cmpV L M = 0) := by unfold Hid; rw [HE.out, if_neg hm]
        clear HE he
        generalize L.length = ll at *
        generalize M.length = ml at *
        as_aux_lemma =>
        go_wp2_with fail
        go_ret
        exact ⟨by rw [HN.out] <;> rfl, HB.out⟩
end Go.Proofs.YtbndgmbjfgmdnaaGreatDoor
