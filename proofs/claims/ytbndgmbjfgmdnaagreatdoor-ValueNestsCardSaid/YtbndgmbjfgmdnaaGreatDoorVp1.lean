/- The walks over cmp.Compare at numbers, over slices.CompareFunc at keys and at values. -/
import Derived.Test.YtbndgmbjfgmdnaaGreatDoorVa2
import Derived.Test.YtbndgmbjfgmdnaaGreatDoorVcm
import Derived.Test.YtbndgmbjfgmdnaaGreatDoorNw2
import Derived.BigQuiet
namespace Go.Proofs.YtbndgmbjfgmdnaaGreatDoor
open Go.RowKit

set_option maxRecDepth 100000 in
theorem cmpZ_any (x y : Int) (w : World) : Calls Tryz.prog 33 #[.int .i64 x, .int .i64 y] w fun e w' => e = .returned (.int .i64 (cmpI x y)) ∧ w' = w := by
  have HC : Hid (cmpI x y = if x < y then -1 else if y < x then 1 else 0) := rfl
  go_enter Tryz.func33, Tryz.ntmps33
  go_wp2_with fail
  refine (nanI_any _ _ rfl w).mono ?_
  rintro e w1 ⟨rfl, rfl⟩
  go_wp2_with fail
  refine (nanI_any _ _ rfl w1).mono ?_
  rintro e w2 ⟨rfl, rfl⟩
  by_cases h1 : x < y
  · rw [if_pos h1] at HC
    go_wp2_with fail
    go_ret
    exact ⟨by rw [HC.out]; rfl, rfl⟩
  · rw [if_neg h1] at HC
    by_cases h2 : y < x
    · rw [if_pos h2] at HC
      go_wp2_with fail
      go_ret
      exact ⟨by rw [HC.out]; rfl, rfl⟩
    · rw [if_neg h2] at HC
      go_wp2_with fail
      go_ret
      exact ⟨by rw [HC.out]; rfl, rfl⟩

theorem compareEnters : ∀ args w, (callFunc 38 args).run Tryz.prog w = .ok (.enter 38 args) w := enters_of Tryz.func38 (by kernel_rfl) rfl
theorem vcompareEnters : ∀ args w, (callFunc 15 args).run Tryz.prog w = .ok (.enter 15 args) w := enters_of Tryz.func15 (by kernel_rfl) rfl

def CkRel (L M : List ByteArray) (w1 : World) (f : Nat) (t13 : Value) (wr : World) : Prop :=
  ∃ i : Nat, t13 = .int .i64 (i : Nat) ∧ i ≤ L.length ∧ f = L.length - i ∧ keyC L M = lexC (fun x y : ByteArray => natC x.data.toList y.data.toList) (L.drop i) (M.drop i) ∧ Below w1.heap.size w1 wr
theorem vcell_slices0 {w : World} {t : VT} {cs : List Value} (h : VCell w t cs) : ∃ k b n s lo ln lc ko kn kc, cs = [.int .i64 k, .bool b, .int .i64 n, .string s, .slice lo ln lc, .slice ko kn kc] := by
  cases t
  rw [vcell_mk] at h
  obtain ⟨lv, kv, rfl, h1, h2⟩ := h
  obtain ⟨ko, kc, rfl⟩ := h1.form
  obtain ⟨lo, lc, rfl⟩ := vlist_slice h2
  exact ⟨_, _, _, _, _, _, _, _, _, _, rfl⟩
theorem getD_at {l : List ByteArray} {i : Nat} (h : i < l.length) : l.getD i ByteArray.empty = l[i] := by
  rw [List.getD, List.getElem?_eq_getElem h]; rfl

set_option maxRecDepth 100000 in
set_option maxHeartbeats 1600000 in
theorem cmpfk_any (L M : List ByteArray) (lo mo : Option Addr) (lc mc : Nat) (hl : L.length ≤ 9223372036854775807) (hsl : ∀ x ∈ L, x.size ≤ 9223372036854775807) (hsm : ∀ x ∈ M, x.size ≤ 9223372036854775807) (w : World)
    (hL : StrsAt w (.slice lo L.length lc) L) (hM : StrsAt w (.slice mo M.length mc) M) :
    Calls Tryz.prog 37 #[.slice lo L.length lc, .slice mo M.length mc, .func (.func 38) #[] #[]] w fun e w' => e = .returned (.int .i64 (keyC L M)) ∧ Below w.heap.size w w' := by
  have HL := Lib.hid hL
  have HM := Lib.hid hM
  have HSL := Lib.hid hsl
  have HSM := Lib.hid hsm
  have eg := compareEnters
  have HK0 := Lib.hid (keyC_def L M)
  clear hL hM hsl hsm
  go_enter Tryz.func37, Tryz.ntmps37
  go_wp2_with fail
  go_loopg [13] L.length (CkRel L M w)
  case atStart => exact ⟨0, rfl, Nat.zero_le _, rfl, by rw [HK0.out]; rfl, Below.refl _ w⟩
  case round =>
    obtain ⟨i, rfl, hi, rfl, hlx, hbel⟩ := hrel
    have HLX := Lib.hid hlx
    have HB := Lib.hid hbel
    clear hlx hbel
    by_cases hlt : i < L.length
    · obtain ⟨b1, o1, rfl, _, hc1⟩ := (HL.out.below HB.out).at_ hlt
      have hii : (i : Int) < (L.length : Int) := by omega
      rw [getD_at hlt] at hc1
      by_cases hlm : i < M.length
      · obtain ⟨b2, o2, rfl, _, hc2⟩ := (HM.out.below HB.out).at_ hlm
        rw [getD_at hlm] at hc2
        have HST := Lib.hid (lexC_step (C := fun x y : ByteArray => natC x.data.toList y.data.toList) hlt hlm)
        have him : decide ((M.length : Int) ≤ (i : Int)) = false := decide_eq_false (by omega)
        have him2 : (i : Int) < (M.length : Int) := by omega
        have CC := Lib.hid (compare_any L[i] M[i] (HSL.out _ (List.getElem_mem hlt)) (HSM.out _ (List.getElem_mem hlm)) wr)
        generalize L[i] = x at *
        generalize M[i] = y at *
        generalize natC x.data.toList y.data.toList = q at *
        as_aux_lemma =>
        go_wp2_with fail
        refine CC.out.mono ?_
        rintro e w5 ⟨rfl, hu⟩
        have HB5 := Lib.hid (HB.out.trans (hu.b.mono HB.out.size))
        clear hu CC
        by_cases hq : q = 0
        · have t1 : (q == 0) = true := by rw [hq]; rfl
          have t1b : (q != 0) = false := by rw [hq]; rfl
          have HN : Hid (keyC L M = lexC (fun x y : ByteArray => natC x.data.toList y.data.toList) (L.drop (i + 1)) (M.drop (i + 1))) := by unfold Hid; rw [HLX.out, HST.out, if_pos hq]
          clear hq HST HLX
          as_aux_lemma =>
          go_wp2_with fail
          go_roundg (L.length - (i + 1))
          case measure => omega
          case rel => exact ⟨i + 1, by go_num, by omega, rfl, HN.out, HB5.out⟩
        · have t1 : (q == 0) = false := by rw [beq_eq_false_iff_ne]; exact hq
          have t1b : (q != 0) = true := by simp [bne, t1]
          have HN : Hid (keyC L M = q) := by unfold Hid; rw [HLX.out, HST.out, if_neg hq]
          clear hq HST HLX
          as_aux_lemma =>
          go_wp2_with fail
          go_ret
          exact ⟨by rw [HN.out] <;> rfl, HB5.out⟩
      · have him : (M.length : Int) ≤ (i : Int) := by omega
        have HN : Hid (keyC L M = 1) := by unfold Hid; rw [HLX.out, lexC_over hlt (by omega)]
        clear HLX
        generalize L[i] = x at *
        as_aux_lemma =>
        go_wp2_with fail
        go_ret
        exact ⟨by rw [HN.out] <;> rfl, HB.out⟩
    · have hii : ¬ (i : Int) < (L.length : Int) := by omega
      have he : i = L.length := by omega
      have HE : Hid (keyC L M = if L.length < M.length then -1 else 0) := by unfold Hid; rw [HLX.out, he, lexC_end]
      clear HLX he
      by_cases hm : L.length < M.length
      · have him : (L.length : Int) < (M.length : Int) := by omega
        have HN : Hid (keyC L M = -1) := by unfold Hid; rw [HE.out, if_pos hm]
        clear HE hm
        as_aux_lemma =>
        go_wp2_with fail
        go_ret
        exact ⟨by rw [HN.out] <;> rfl, HB.out⟩
      · have him : ¬ (L.length : Int) < (M.length : Int) := by omega
        have HN : Hid (keyC L M = 0) := by unfold Hid; rw [HE.out, if_neg hm]
        clear HE hm
        as_aux_lemma =>
        go_wp2_with fail
        go_ret
        exact ⟨by rw [HN.out] <;> rfl, HB.out⟩

/-! ### lists of values -/
def CmpCalls (x : VT) : Prop := ∀ (y : VT), y.wf → ∀ cs cs' W, VCell W x cs → VCell W y cs' → Calls Tryz.prog 15 #[.agg cs.toArray, .agg cs'.toArray] W fun e w' => e = .returned (.int .i64 (cmpV x y)) ∧ Below W.heap.size W w'
def CvRel (L M : List VT) (w1 : World) (f : Nat) (t13 : Value) (wr : World) : Prop :=
  ∃ i : Nat, t13 = .int .i64 (i : Nat) ∧ i ≤ L.length ∧ f = L.length - i ∧ lexC cmpV L M = lexC cmpV (L.drop i) (M.drop i) ∧ Below w1.heap.size w1 wr

set_option maxRecDepth 100000 in
set_option maxHeartbeats 1600000 in
theorem cmpfv_any (L M : List VT) (lo mo : Option Addr) (lc mc : Nat) (hl : L.length ≤ 9223372036854775807) (hwf : ∀ y ∈ M, y.wf) (ih : ∀ x ∈ L, CmpCalls x) (w : World)
    (hL : VList w L (.slice lo L.length lc)) (hM : VList w M (.slice mo M.length mc)) :
    Calls Tryz.prog 36 #[.slice lo L.length lc, .slice mo M.length mc, .func (.func 15) #[] #[]] w fun e w' => e = .returned (.int .i64 (lexC cmpV L M)) ∧ Below w.heap.size w w' := by
  have HL := Lib.hid hL
  have HM := Lib.hid hM
  have HWF := Lib.hid hwf
  have IH := Lib.hid ih
  have eg := vcompareEnters
  clear hL hM hwf ih
  go_enter Tryz.func36, Tryz.ntmps36
  go_wp2_with fail
  go_loopg [13] L.length (CvRel L M w)
  case atStart => exact ⟨0, rfl, Nat.zero_le _, rfl, rfl, Below.refl _ w⟩
  case round =>
    obtain ⟨i, rfl, hi, rfl, hlx, hbel⟩ := hrel
    have HLX := Lib.hid hlx
    have HB := Lib.hid hbel
    clear hlx hbel
    have HA : Hid (∀ o, Below wr.heap.size wr (wr.alloc o)) := fun o => (Below.refl _ wr).alloc (Nat.le_refl _) o
    have HA2 : Hid (∀ o o2, Below wr.heap.size wr ((wr.alloc o).alloc o2)) := fun o o2 => ((Below.refl _ wr).alloc (Nat.le_refl _) o).alloc (by simp) o2
    by_cases hlt : i < L.length
    · obtain ⟨b1, o1, ce, rfl, hb1, hce, hvc⟩ := (HL.out.below HB.out).at hlt
      have hii : (i : Int) < (L.length : Int) := by omega
      obtain ⟨k1, c1, n1, s1, lo1, ln1, lc1, ko1, kn1, kc1, rfl⟩ := vcell_slices0 hvc
      have HVC := Lib.hid hvc
      have e0 := hce 0 _ rfl
      have e1 := hce 1 _ rfl
      have e2 := hce 2 _ rfl
      have e3 := hce 3 _ rfl
      have e4 := hce 4 _ rfl
      have e5 := hce 5 _ rfl
      rw [Nat.add_zero] at e0
      clear hce hvc
      by_cases hlm : i < M.length
      · obtain ⟨b2, o2, cf, rfl, hb2, hcf, hvd⟩ := (HM.out.below HB.out).at hlm
        obtain ⟨k2, c2, n2, s2, lo2, ln2, lc2, ko2, kn2, kc2, rfl⟩ := vcell_slices0 hvd
        have HVD := Lib.hid hvd
        have f0 := hcf 0 _ rfl
        have f1 := hcf 1 _ rfl
        have f2 := hcf 2 _ rfl
        have f3 := hcf 3 _ rfl
        have f4 := hcf 4 _ rfl
        have f5 := hcf 5 _ rfl
        rw [Nat.add_zero] at f0
        clear hcf hvd
        have HST := Lib.hid (lexC_step (C := cmpV) hlt hlm)
        have him : decide ((M.length : Int) ≤ (i : Int)) = false := decide_eq_false (by omega)
        have him2 : (i : Int) < (M.length : Int) := by omega
        have CC := Lib.hid (IH.out _ (List.getElem_mem hlt) _ (HWF.out _ (List.getElem_mem hlm)))
        unfold CmpCalls at CC
        generalize L[i] = x at *
        generalize M[i] = y at *
        as_aux_lemma =>
        go_wp2_with fail
        refine (CC.out _ _ _ (VCell.below (HA2.out _ _) _ _ HVC.out) (VCell.below (HA2.out _ _) _ _ HVD.out)).mono ?_
        rintro e w5 ⟨rfl, hu⟩
        have HB5 := Lib.hid (HB.out.trans (((HA2.out _ _).trans (hu.mono (HA2.out _ _).size)).mono HB.out.size))
        clear hu CC
        generalize cmpV x y = q at *
        by_cases hq : q = 0
        · have t1 : (q == 0) = true := by rw [hq]; rfl
          have t1b : (q != 0) = false := by rw [hq]; rfl
          have HN : Hid (lexC cmpV L M = lexC cmpV (L.drop (i + 1)) (M.drop (i + 1))) := by unfold Hid; rw [HLX.out, HST.out, if_pos hq]
          clear hq HST HLX
          as_aux_lemma =>
          go_wp2_with fail
          go_roundg (L.length - (i + 1))
          case measure => omega
          case rel => exact ⟨i + 1, by go_num, by omega, rfl, HN.out, HB5.out⟩
        · have t1 : (q == 0) = false := by rw [beq_eq_false_iff_ne]; exact hq
          have t1b : (q != 0) = true := by simp [bne, t1]
          have HN : Hid (lexC cmpV L M = q) := by unfold Hid; rw [HLX.out, HST.out, if_neg hq]
          clear hq HST HLX
          as_aux_lemma =>
          go_wp2_with fail
          go_ret
          exact ⟨by rw [HN.out] <;> rfl, HB5.out⟩
      · have him : (M.length : Int) ≤ (i : Int) := by omega
        have HN : Hid (lexC cmpV L M = 1) := by unfold Hid; rw [HLX.out, lexC_over hlt (by omega)]
        clear HLX
        as_aux_lemma =>
        go_wp2_with fail
        go_ret
        exact ⟨by rw [HN.out] <;> rfl, HB.out.trans ((HA.out _).mono HB.out.size)⟩
    · have hii : ¬ (i : Int) < (L.length : Int) := by omega
      have he : i = L.length := by omega
      have HE : Hid (lexC cmpV L M = if L.length < M.length then -1 else 0) := by unfold Hid; rw [HLX.out, he, lexC_end]
      clear HLX he
      by_cases hm : L.length < M.length
      · have him : (L.length : Int) < (M.length : Int) := by omega
        have HN : Hid (lexC cmpV L M = -1) := by unfold Hid; rw [HE.out, if_pos hm]
        clear HE hm
        as_aux_lemma =>
        go_wp2_with fail
        go_ret
        exact ⟨by rw [HN.out] <;> rfl, HB.out⟩
      · have him : ¬ (L.length : Int) < (M.length : Int) := by omega
        have HN : Hid (lexC cmpV L M = 0) := by unfold Hid; rw [HE.out, if_neg hm]
        clear HE hm
        as_aux_lemma =>
        go_wp2_with fail
        go_ret
        exact ⟨by rw [HN.out] <;> rfl, HB.out⟩
end Go.Proofs.YtbndgmbjfgmdnaaGreatDoor
