/- The walks over the reference's names, lists and Compare. -/
import Derived.Test.YtomecnncighkgaaGreatDoorVp1m
import Derived.Test.YtomecnncighkgaaGreatDoorVb3
import Derived.StillTailTactics
import Derived.Test.YtomecnncighkgaaGreatDoorVb1
namespace Go.Proofs.YtomecnncighkgaaGreatDoor
open Go.RowKit

def RkRel (L M : List ByteArray) (w1 : World) (f : Nat) (t5 : Value) (wr : World) : Prop :=
  ∃ i : Nat, t5 = .int .i64 (i : Nat) ∧ i ≤ L.length ∧ i ≤ M.length ∧ f = L.length - i ∧ keyC L M = lexC (fun x y : ByteArray => natC x.data.toList y.data.toList) (L.drop i) (M.drop i) ∧ Below w1.heap.size w1 wr

set_option maxRecDepth 100000 in
set_option maxHeartbeats 3200000 in
theorem rnames_any (L M : List ByteArray) (lo mo : Option Addr) (lc mc : Nat) (hl : L.length ≤ 9223372036854775807) (hsl : ∀ x ∈ L, x.size ≤ 9223372036854775807) (hsm : ∀ x ∈ M, x.size ≤ 9223372036854775807) (w : World)
    (hL : StrsAt w (.slice lo L.length lc) L) (hM : StrsAt w (.slice mo M.length mc) M) :
    Calls Tryz.prog 121 #[.slice lo L.length lc, .slice mo M.length mc] w fun e w' => e = .returned (.int .i64 (keyC L M)) ∧ Below w.heap.size w w' := by
  have HL := Lib.hid hL
  have HM := Lib.hid hM
  have HSL := Lib.hid hsl
  have HSM := Lib.hid hsm
  have HK0 := Lib.hid (keyC_def L M)
  clear hL hM hsl hsm
  go_enter Tryz.func121, Tryz.ntmps121
  go_wp2_with fail
  go_loopg [5] L.length (RkRel L M w)
  case atStart => exact ⟨0, rfl, Nat.zero_le _, Nat.zero_le _, rfl, by rw [HK0.out]; rfl, Below.refl _ w⟩
  case round =>
    obtain ⟨i, rfl, hi, him, rfl, hlx, hbel⟩ := hrel
    have HLX := Lib.hid hlx
    have HB := Lib.hid hbel
    clear hlx hbel
    have SG := fun b W => Lib.hid (sign_any b W)
    by_cases hlt : i < L.length
    · have hii : (i : Int) < (L.length : Int) := by omega
      by_cases hlm : i < M.length
      · obtain ⟨b1, o1, rfl, _, hc1⟩ := (HL.out.below HB.out).at_ hlt
        rw [getD_at hlt] at hc1
        obtain ⟨b2, o2, rfl, _, hc2⟩ := (HM.out.below HB.out).at_ hlm
        rw [getD_at hlm] at hc2
        have HST := Lib.hid (lexC_step (C := fun x y : ByteArray => natC x.data.toList y.data.toList) hlt hlm)
        have him2 : (i : Int) < (M.length : Int) := by omega
        have CC := fun W => Lib.hid (rcompare_any L[i] M[i] (HSL.out _ (List.getElem_mem hlt)) (HSM.out _ (List.getElem_mem hlm)) W)
        have hrg := natC_po.rng (L[i]).data.toList (M[i]).data.toList
        generalize L[i] = x at *
        generalize M[i] = y at *
        generalize natC x.data.toList y.data.toList = q at *
        have HRG := Lib.hid hrg
        clear hrg
        as_aux_lemma =>
        go_upto_region 4 with fail
        go_still_tail 8, (by kernel_rfl)
        change wpList _ _ _ _ _ (World.drew _)
        go_wp2_with fail
        refine (CC _).out.mono ?_
        rintro e w5 ⟨rfl, hu⟩
        have HB5 := Lib.hid (HB.out.trans ((Below.refl wr.heap.size wr).drew.trans (hu.b.mono (Nat.le_refl _)) |>.mono HB.out.size))
        clear hu CC hc1 hc2
        by_cases hq : q = 0
        · have t1 : (q == 0) = true := by rw [hq]; rfl
          have t1b : (q != 0) = false := by rw [hq]; rfl
          have HN : Hid (keyC L M = lexC (fun x y : ByteArray => natC x.data.toList y.data.toList) (L.drop (i + 1)) (M.drop (i + 1))) := by unfold Hid; rw [HLX.out, HST.out, if_pos hq]
          clear hq HST HLX
          as_aux_lemma =>
          go_wp2_with fail
          go_roundg (L.length - (i + 1))
          case measure => omega
          case rel => exact ⟨i + 1, by go_num, by omega, by omega, rfl, HN.out, HB5.out⟩
        · have t1 : (q == 0) = false := by rw [beq_eq_false_iff_ne]; exact hq
          have t1b : (q != 0) = true := by simp [bne, t1]
          have HN : Hid (keyC L M = q) := by unfold Hid; rw [HLX.out, HST.out, if_neg hq]
          have hq2 : q = -1 ∨ q = 1 := by rcases HRG.out with h | h | h <;> omega
          clear hq HST HLX HRG
          rcases hq2 with rfl | rfl
          · as_aux_lemma =>
            go_wp2_with fail
            refine (SG _ _).out.mono ?_
            rintro e w6 ⟨rfl, hw⟩
            rw [hw]
            clear hw w6
            go_wp2_with fail
            go_ret
            exact ⟨by rw [HN.out] <;> rfl, HB5.out⟩
          · as_aux_lemma =>
            go_wp2_with fail
            refine (SG _ _).out.mono ?_
            rintro e w6 ⟨rfl, hw⟩
            rw [hw]
            clear hw w6
            go_wp2_with fail
            go_ret
            exact ⟨by rw [HN.out] <;> rfl, HB5.out⟩
      · have him2 : decide ((i : Int) < (M.length : Int)) = false := decide_eq_false (by omega)
        have tn : ((L.length : Int) == (M.length : Int)) = false := by rw [beq_eq_false_iff_ne]; omega
        have tn2 : decide ((L.length : Int) < (M.length : Int)) = false := decide_eq_false (by omega)
        have tn2n : decide (L.length < M.length) = false := decide_eq_false (by omega)
        have HN : Hid (keyC L M = 1) := by unfold Hid; rw [HLX.out, lexC_over hlt (by omega)]
        clear HLX
        generalize L.length = ll at *
        generalize M.length = ml at *
        as_aux_lemma =>
        go_wp2_with fail
        refine (SG _ _).out.mono ?_
        rintro e w6 ⟨rfl, hw⟩
        rw [hw]
        clear hw w6
        go_wp2_with fail
        go_ret
        exact ⟨by rw [HN.out] <;> rfl, HB.out⟩
    · have hii : decide ((i : Int) < (L.length : Int)) = false := decide_eq_false (by omega)
      have he : i = L.length := by omega
      have HE : Hid (keyC L M = if L.length < M.length then -1 else 0) := by unfold Hid; rw [HLX.out, he, lexC_end]
      clear HLX
      by_cases hm : L.length < M.length
      · have tn : ((L.length : Int) == (M.length : Int)) = false := by rw [beq_eq_false_iff_ne]; omega
        have tn2 : decide ((L.length : Int) < (M.length : Int)) = true := decide_eq_true (by omega)
        have tn2n : decide (L.length < M.length) = true := decide_eq_true (by omega)
        have HN : Hid (keyC L M = -1) := by unfold Hid; rw [HE.out, if_pos hm]
        clear HE he
        generalize L.length = ll at *
        generalize M.length = ml at *
        as_aux_lemma =>
        go_wp2_with fail
        refine (SG _ _).out.mono ?_
        rintro e w6 ⟨rfl, hw⟩
        rw [hw]
        clear hw w6
        go_wp2_with fail
        go_ret
        exact ⟨by rw [HN.out] <;> rfl, HB.out⟩
      · have tn : ((L.length : Int) == (M.length : Int)) = true := by rw [beq_iff_eq]; omega
        have HN : Hid (keyC L M = 0) := by unfold Hid; rw [HE.out, if_neg hm]
        clear HE he
        generalize L.length = ll at *
        generalize M.length = ml at *
        as_aux_lemma =>
        go_wp2_with fail
        go_ret
        exact ⟨by rw [HN.out] <;> rfl, HB.out⟩

/-! ### lists of values -/
def RcmpCalls (x : VT) : Prop := ∀ (y : VT), y.wf → ∀ cs cs' W, VCell W x cs → VCell W y cs' → Calls Tryz.prog 89 #[.agg cs.toArray, .agg cs'.toArray] W fun e w' => e = .returned (.int .i64 (cmpV x y)) ∧ Below W.heap.size W w'
def RvRel (L M : List VT) (w1 : World) (f : Nat) (t5 : Value) (wr : World) : Prop :=
  ∃ i : Nat, t5 = .int .i64 (i : Nat) ∧ i ≤ L.length ∧ i ≤ M.length ∧ f = L.length - i ∧ lexC cmpV L M = lexC cmpV (L.drop i) (M.drop i) ∧ Below w1.heap.size w1 wr

set_option maxRecDepth 100000 in
set_option maxHeartbeats 3200000 in
theorem rlists_any (L M : List VT) (lo mo : Option Addr) (lc mc : Nat) (hl : L.length ≤ 9223372036854775807) (hwf : ∀ y ∈ M, y.wf) (ih : ∀ x ∈ L, RcmpCalls x) (w : World)
    (hL : VList w L (.slice lo L.length lc)) (hM : VList w M (.slice mo M.length mc)) :
    Calls Tryz.prog 120 #[.slice lo L.length lc, .slice mo M.length mc] w fun e w' => e = .returned (.int .i64 (lexC cmpV L M)) ∧ Below w.heap.size w w' := by
  have HL := Lib.hid hL
  have HM := Lib.hid hM
  have HWF := Lib.hid hwf
  have IH := Lib.hid ih
  clear hL hM hwf ih
  go_enter Tryz.func120, Tryz.ntmps120
  go_wp2_with fail
  go_loopg [5] L.length (RvRel L M w)
  case atStart => exact ⟨0, rfl, Nat.zero_le _, Nat.zero_le _, rfl, rfl, Below.refl _ w⟩
  case round =>
    obtain ⟨i, rfl, hi, him, rfl, hlx, hbel⟩ := hrel
    have HLX := Lib.hid hlx
    have HB := Lib.hid hbel
    clear hlx hbel
    have SG := fun b W => Lib.hid (sign_any b W)
    have HA : Hid (Below wr.heap.size wr wr.drew) := (Below.refl _ wr).drew
    by_cases hlt : i < L.length
    · have hii : (i : Int) < (L.length : Int) := by omega
      by_cases hlm : i < M.length
      · obtain ⟨b1, o1, ce, rfl, hb1, hce, hvc⟩ := (HL.out.below HB.out).at hlt
        obtain ⟨k1, c1, n1, s1, lo1, ln1, lc1, ko1, kn1, kc1, rfl⟩ := vcell_slices0 hvc
        have HVC := Lib.hid hvc
        have e0 := hce 0 _ rfl
        have e1 := hce 1 _ rfl
        have e2 := hce 2 _ rfl
        have e3 := hce 3 _ rfl
        have e4 := hce 4 _ rfl
        have e5 := hce 5 _ rfl
        rw [Nat.add_zero] at e0
        clear hce hvc
        obtain ⟨b2, o2, cf, rfl, hb2, hcf, hvd⟩ := (HM.out.below HB.out).at hlm
        obtain ⟨k2, c2, n2, s2, lo2, ln2, lc2, ko2, kn2, kc2, rfl⟩ := vcell_slices0 hvd
        have HVD := Lib.hid hvd
        have f0 := hcf 0 _ rfl
        have f1 := hcf 1 _ rfl
        have f2 := hcf 2 _ rfl
        have f3 := hcf 3 _ rfl
        have f4 := hcf 4 _ rfl
        have f5 := hcf 5 _ rfl
        rw [Nat.add_zero] at f0
        clear hcf hvd
        have HST := Lib.hid (lexC_step (C := cmpV) hlt hlm)
        have him2 : (i : Int) < (M.length : Int) := by omega
        have CC := Lib.hid (IH.out _ (List.getElem_mem hlt) _ (HWF.out _ (List.getElem_mem hlm)))
        unfold RcmpCalls at CC
        have HRG := Lib.hid (cmpV_rng L[i] M[i])
        generalize L[i] = x at *
        generalize M[i] = y at *
        as_aux_lemma =>
        go_upto_region 4 with fail
        go_still_tail 8, (by kernel_rfl)
        change wpList _ _ _ _ _ (World.drew _)
        go_wp2_with fail
        refine (CC.out _ _ _ (VCell.below HA.out _ _ HVC.out) (VCell.below HA.out _ _ HVD.out)).mono ?_
        rintro e w5 ⟨rfl, hu⟩
        have HB5 := Lib.hid (HB.out.trans ((HA.out.trans (hu.mono HA.out.size)).mono HB.out.size))
        clear hu CC HVC HVD e0 e1 e2 e3 e4 e5 f0 f1 f2 f3 f4 f5
        generalize cmpV x y = q at *
        by_cases hq : q = 0
        · have t1 : (q == 0) = true := by rw [hq]; rfl
          have t1b : (q != 0) = false := by rw [hq]; rfl
          have HN : Hid (lexC cmpV L M = lexC cmpV (L.drop (i + 1)) (M.drop (i + 1))) := by unfold Hid; rw [HLX.out, HST.out, if_pos hq]
          clear hq HST HLX
          as_aux_lemma =>
          go_wp2_with fail
          go_roundg (L.length - (i + 1))
          case measure => omega
          case rel => exact ⟨i + 1, by go_num, by omega, by omega, rfl, HN.out, HB5.out⟩
        · have t1 : (q == 0) = false := by rw [beq_eq_false_iff_ne]; exact hq
          have t1b : (q != 0) = true := by simp [bne, t1]
          have HN : Hid (lexC cmpV L M = q) := by unfold Hid; rw [HLX.out, HST.out, if_neg hq]
          clear hq HST HLX HRG
          as_aux_lemma =>
          go_wp2_with fail
          go_ret
          exact ⟨by rw [HN.out] <;> rfl, HB5.out⟩
      · have him2 : decide ((i : Int) < (M.length : Int)) = false := decide_eq_false (by omega)
        have tn : ((L.length : Int) == (M.length : Int)) = false := by rw [beq_eq_false_iff_ne]; omega
        have tn2 : decide ((L.length : Int) < (M.length : Int)) = false := decide_eq_false (by omega)
        have tn2n : decide (L.length < M.length) = false := decide_eq_false (by omega)
        have HN : Hid (lexC cmpV L M = 1) := by unfold Hid; rw [HLX.out, lexC_over hlt (by omega)]
        clear HLX
        generalize L.length = ll at *
        generalize M.length = ml at *
        as_aux_lemma =>
        go_wp2_with fail
        refine (SG _ _).out.mono ?_
        rintro e w6 ⟨rfl, hw⟩
        rw [hw]
        clear hw w6
        go_wp2_with fail
        go_ret
        exact ⟨by rw [HN.out] <;> rfl, HB.out⟩
    · have hii : decide ((i : Int) < (L.length : Int)) = false := decide_eq_false (by omega)
      have he : i = L.length := by omega
      have HE : Hid (lexC cmpV L M = if L.length < M.length then -1 else 0) := by unfold Hid; rw [HLX.out, he, lexC_end]
      clear HLX
      by_cases hm : L.length < M.length
      · have tn : ((L.length : Int) == (M.length : Int)) = false := by rw [beq_eq_false_iff_ne]; omega
        have tn2 : decide ((L.length : Int) < (M.length : Int)) = true := decide_eq_true (by omega)
        have tn2n : decide (L.length < M.length) = true := decide_eq_true (by omega)
        have HN : Hid (lexC cmpV L M = -1) := by unfold Hid; rw [HE.out, if_pos hm]
        clear HE he
        generalize L.length = ll at *
        generalize M.length = ml at *
        as_aux_lemma =>
        go_wp2_with fail
        refine (SG _ _).out.mono ?_
        rintro e w6 ⟨rfl, hw⟩
        rw [hw]
        clear hw w6
        go_wp2_with fail
        go_ret
        exact ⟨by rw [HN.out] <;> rfl, HB.out⟩
      · have tn : ((L.length : Int) == (M.length : Int)) = true := by rw [beq_iff_eq]; omega
        have HN : Hid (lexC cmpV L M = 0) := by unfold Hid; rw [HE.out, if_neg hm]
        clear HE he
        generalize L.length = ll at *
        generalize M.length = ml at *
        as_aux_lemma =>
        go_wp2_with fail
        go_ret
        exact ⟨by rw [HN.out] <;> rfl, HB.out⟩
end Go.Proofs.YtomecnncighkgaaGreatDoor
/- The walk over the reference's Compare. -/
namespace Go.Proofs.YtomecnncighkgaaGreatDoor
open Go.RowKit

set_option maxRecDepth 100000 in
set_option maxHeartbeats 3200000 in
theorem rcmp_it (k : Int) (b : Bool) (n : Int) (s : ByteArray) (L : List VT) (ks : List ByteArray) (hw : (VT.mk k b n s L ks).wf) (ih : ∀ x ∈ L, RcmpCalls x) : RcmpCalls (.mk k b n s L ks) := by
  intro y hy cs cs' W h1 h2
  cases y with
  | mk k' b' n' s' M ms =>
  obtain ⟨_, _, _, hl, hkl, hkz, _⟩ := VT.wf_parts hw
  obtain ⟨_, _, _, _, _, hmz, hmw⟩ := VT.wf_parts hy
  rw [vcell_mk] at h1 h2
  obtain ⟨v4, v5, rfl, hs, hL⟩ := h1
  obtain ⟨u4, u5, rfl, ht, hM⟩ := h2
  obtain ⟨ko, kc, rfl⟩ := hs.form
  obtain ⟨mo, mc, rfl⟩ := ht.form
  obtain ⟨lo, lc, rfl⟩ := vlist_slice hL
  obtain ⟨po, pc, rfl⟩ := vlist_slice hM
  obtain ⟨W1, hW1⟩ : ∃ W1, W.alloc (.cells #[.int .i64 k, .bool b, .int .i64 n, .string s, .slice lo L.length lc, .slice ko ks.length kc] 46 (0, 0)) = W1 := ⟨_, rfl⟩
  obtain ⟨W2, hW2⟩ : ∃ W2, W1.alloc (.cells #[.int .i64 k', .bool b', .int .i64 n', .string s', .slice po M.length pc, .slice mo ms.length mc] 46 (0, 0)) = W2 := ⟨_, rfl⟩
  have hs1 : W1.heap.size = W.heap.size + 1 := by rw [← hW1]; simp
  have hk1 : W2.heap[W.heap.size]? = some (.cells #[.int .i64 k, .bool b, .int .i64 n, .string s, .slice lo L.length lc, .slice ko ks.length kc] 46 (0, 0)) := by rw [← hW2]; exact (hp_old (by omega)).trans (by rw [← hW1]; exact hp_new rfl)
  have hk2 : W2.heap[W.heap.size + 1]? = some (.cells #[.int .i64 k', .bool b', .int .i64 n', .string s', .slice po M.length pc, .slice mo ms.length mc] 46 (0, 0)) := by rw [← hW2]; exact hp_new (by omega)
  have HB : Hid (Below W.heap.size W W2) := by unfold Hid; rw [← hW2, ← hW1]; exact ((Below.refl _ W).alloc (Nat.le_refl _) _).alloc (by simp) _
  have HCF := Lib.hid (rlists_any L M lo po lc pc hl hmw ih W2 (hL.below HB.out) (hM.below HB.out))
  have HCL : Hid (∀ W3, Below W2.heap.size W2 W3 → Calls Tryz.prog 120 #[.slice lo L.length lc, .slice po M.length pc] W3 fun e w' => e = .returned (.int .i64 (lexC cmpV L M)) ∧ Below W3.heap.size W3 w') := fun W3 h3 => rlists_any L M lo po lc pc hl hmw ih W3 (hL.below (HB.out.trans (h3.mono HB.out.size))) (hM.below (HB.out.trans (h3.mono HB.out.size)))
  have HCK := Lib.hid (rnames_any ks ms ko mo kc mc hkl hkz hmz W2 (hs.below HB.out) (ht.below HB.out))
  have g0 : W2.cell? ⟨W.heap.size, 0, none⟩ = some (.int .i64 k) := cell_of_blk hk1 0
  have g1 : W2.cell? ⟨W.heap.size, 1, none⟩ = some (.bool b) := cell_of_blk hk1 1
  have g2 : W2.cell? ⟨W.heap.size, 2, none⟩ = some (.int .i64 n) := cell_of_blk hk1 2
  have g3 : W2.cell? ⟨W.heap.size, 3, none⟩ = some (.string s) := cell_of_blk hk1 3
  have g4 : W2.cell? ⟨W.heap.size, 4, none⟩ = some (.slice lo L.length lc) := cell_of_blk hk1 4
  have g5 : W2.cell? ⟨W.heap.size, 5, none⟩ = some (.slice ko ks.length kc) := cell_of_blk hk1 5
  have f0 : W2.cell? ⟨W.heap.size + 1, 0, none⟩ = some (.int .i64 k') := cell_of_blk hk2 0
  have f1 : W2.cell? ⟨W.heap.size + 1, 1, none⟩ = some (.bool b') := cell_of_blk hk2 1
  have f2 : W2.cell? ⟨W.heap.size + 1, 2, none⟩ = some (.int .i64 n') := cell_of_blk hk2 2
  have f3 : W2.cell? ⟨W.heap.size + 1, 3, none⟩ = some (.string s') := cell_of_blk hk2 3
  have f4 : W2.cell? ⟨W.heap.size + 1, 4, none⟩ = some (.slice po M.length pc) := cell_of_blk hk2 4
  have f5 : W2.cell? ⟨W.heap.size + 1, 5, none⟩ = some (.slice mo ms.length mc) := cell_of_blk hk2 5
  have HG4 : Hid (∀ W3, Below W2.heap.size W2 W3 → W3.cell? ⟨W.heap.size, 4, none⟩ = some (.slice lo L.length lc) ∧ W3.cell? ⟨W.heap.size + 1, 4, none⟩ = some (.slice po M.length pc)) := fun W3 h3 => by
    have z1 : W.heap.size < W2.heap.size := (Array.getElem?_eq_some_iff.1 hk1).1
    have z2 : W.heap.size + 1 < W2.heap.size := (Array.getElem?_eq_some_iff.1 hk2).1
    exact ⟨(h3.cell (p := ⟨W.heap.size, 4, none⟩) z1).trans g4, (h3.cell (p := ⟨W.heap.size + 1, 4, none⟩) z2).trans f4⟩
  have SG := fun b W => Lib.hid (sign_any b W)
  clear hk1 hk2 hs ht hL hM ih hw hy hl hkl hkz hmz hmw
  have HEND : Hid (∀ (q z : Int) , q = z → Ending.returned (.int .i64 z) = .returned (.int .i64 q)) := fun q z h => by rw [h]
  by_cases hk : k = k'
  · subst hk
    have tk : (k == k) = true := by simp
    have tk2 : (k != k) = false := by simp
    by_cases k1 : k = 1
    · subst k1
      have HR : Hid (cmpV (.mk 1 b n s L ks) (.mk 1 b' n' s' M ms) = cmpI (if b then 1 else 0) (if b' then 1 else 0)) := cmpV_bool rfl rfl
      generalize cmpV (.mk 1 b n s L ks) (.mk 1 b' n' s' M ms) = q at *
      clear HCF HCL HCK HG4
      cases b
      · cases b'
        · have HN : Hid (q = 0) := HR.out
          clear HR
          as_aux_lemma =>
          go_enter Tryz.func89, Tryz.ntmps89
          go_wp2_with fail
          go_ret
          exact ⟨by rw [HN.out] <;> rfl, HB.out⟩
        · have HN : Hid (q = -1) := HR.out
          clear HR
          as_aux_lemma =>
          go_enter Tryz.func89, Tryz.ntmps89
          go_wp2_with fail
          refine (SG _ _).out.mono ?_
          rintro e w6 ⟨rfl, hw⟩
          rw [hw]
          clear hw w6
          go_wp2_with fail
          go_ret
          exact ⟨by rw [HN.out] <;> rfl, HB.out⟩
      · cases b'
        · have HN : Hid (q = 1) := HR.out
          clear HR
          as_aux_lemma =>
          go_enter Tryz.func89, Tryz.ntmps89
          go_wp2_with fail
          refine (SG _ _).out.mono ?_
          rintro e w6 ⟨rfl, hw⟩
          rw [hw]
          clear hw w6
          go_wp2_with fail
          go_ret
          exact ⟨by rw [HN.out] <;> rfl, HB.out⟩
        · have HN : Hid (q = 0) := HR.out
          clear HR
          as_aux_lemma =>
          go_enter Tryz.func89, Tryz.ntmps89
          go_wp2_with fail
          go_ret
          exact ⟨by rw [HN.out] <;> rfl, HB.out⟩
    by_cases k2 : k = 2
    · subst k2
      have HR : Hid (cmpV (.mk 2 b n s L ks) (.mk 2 b' n' s' M ms) = cmpI n n') := cmpV_int rfl rfl
      generalize cmpV (.mk 2 b n s L ks) (.mk 2 b' n' s' M ms) = q at *
      clear HCF HCL HCK HG4
      have HC : Hid (cmpI n n' = if n < n' then -1 else if n' < n then 1 else 0) := rfl
      by_cases h1 : n < n'
      · have HN : Hid (q = -1) := by unfold Hid; rw [HR.out, HC.out, if_pos h1]
        have tn : (n == n') = false := by rw [beq_eq_false_iff_ne]; omega
        have tn2 : (n != n') = true := by simp [bne, tn]
        have tl : decide (n < n') = true := decide_eq_true h1
        clear HR HC h1
        as_aux_lemma =>
        go_enter Tryz.func89, Tryz.ntmps89
        go_wp2_with fail
        refine (SG _ _).out.mono ?_
        rintro e w6 ⟨rfl, hw⟩
        rw [hw]
        clear hw w6
        go_wp2_with fail
        go_ret
        exact ⟨by rw [HN.out]; first | rfl | (rw [tl]; rfl), HB.out⟩
      · by_cases h2 : n' < n
        · have HN : Hid (q = 1) := by unfold Hid; rw [HR.out, HC.out, if_neg h1, if_pos h2]
          have tn : (n == n') = false := by rw [beq_eq_false_iff_ne]; omega
          have tn2 : (n != n') = true := by simp [bne, tn]
          have tl : decide (n < n') = false := decide_eq_false h1
          clear HR HC h1 h2
          as_aux_lemma =>
          go_enter Tryz.func89, Tryz.ntmps89
          go_wp2_with fail
          refine (SG _ _).out.mono ?_
          rintro e w6 ⟨rfl, hw⟩
          rw [hw]
          clear hw w6
          go_wp2_with fail
          go_ret
          exact ⟨by rw [HN.out]; first | rfl | (rw [tl]; rfl), HB.out⟩
        · have HN : Hid (q = 0) := by unfold Hid; rw [HR.out, HC.out, if_neg h1, if_neg h2]
          have tn : (n == n') = true := by rw [beq_iff_eq]; omega
          have tn2 : (n != n') = false := by simp [bne, tn]
          clear HR HC h1 h2
          as_aux_lemma =>
          go_enter Tryz.func89, Tryz.ntmps89
          go_wp2_with fail
          go_ret
          exact ⟨by rw [HN.out] <;> rfl, HB.out⟩
    by_cases k3 : k = 3
    · subst k3
      have HR : Hid (cmpV (.mk 3 b n s L ks) (.mk 3 b' n' s' M ms) = cmpS s.data.toList s'.data.toList) := cmpV_str rfl rfl
      generalize cmpV (.mk 3 b n s L ks) (.mk 3 b' n' s' M ms) = q at *
      clear HCF HCL HCK HG4
      rcases cmpS_cases s s' with ⟨t1, hc, t2⟩ | ⟨t1, t2, hc⟩ | ⟨t1, t2, hc⟩
      · have HN : Hid (q = -1) := HR.out.trans hc
        have t3 : (!s.toList == s'.toList) = true := by rw [t2]; rfl
        clear HR hc
        as_aux_lemma =>
        go_enter Tryz.func89, Tryz.ntmps89
        go_wp2_with fail
        refine (SG _ _).out.mono ?_
        rintro e w6 ⟨rfl, hw⟩
        rw [hw]
        clear hw w6
        go_wp2_with fail
        go_ret
        exact ⟨by rw [HN.out]; first | rfl | (rw [t1]; rfl), HB.out⟩
      · have HN : Hid (q = 0) := HR.out.trans hc
        have t3 : (!s.toList == s'.toList) = false := by rw [t2]; rfl
        clear HR hc
        as_aux_lemma =>
        go_enter Tryz.func89, Tryz.ntmps89
        go_wp2_with fail
        go_ret
        exact ⟨by rw [HN.out] <;> rfl, HB.out⟩
      · have HN : Hid (q = 1) := HR.out.trans hc
        have t3 : (!s.toList == s'.toList) = true := by rw [t2]; rfl
        clear HR hc
        as_aux_lemma =>
        go_enter Tryz.func89, Tryz.ntmps89
        go_wp2_with fail
        refine (SG _ _).out.mono ?_
        rintro e w6 ⟨rfl, hw⟩
        rw [hw]
        clear hw w6
        go_wp2_with fail
        go_ret
        exact ⟨by rw [HN.out]; first | rfl | (rw [t1]; rfl), HB.out⟩
    by_cases k4 : k = 4
    · subst k4
      have HR : Hid (cmpV (.mk 4 b n s L ks) (.mk 4 b' n' s' M ms) = lexC cmpV L M) := cmpV_list rfl rfl
      generalize cmpV (.mk 4 b n s L ks) (.mk 4 b' n' s' M ms) = q at *
      clear HCL HCK HG4
      generalize lexC cmpV L M = qq at *
      generalize L.length = ll at *
      generalize M.length = ml at *
      as_aux_lemma =>
      go_enter Tryz.func89, Tryz.ntmps89
      go_wp2_with fail
      refine HCF.out.mono ?_
      rintro e w1 ⟨rfl, hu⟩
      have HB5 := Lib.hid (HB.out.trans (hu.mono HB.out.size))
      clear hu HCF
      go_wp2_with fail
      go_ret
      exact ⟨by rw [HR.out] <;> rfl, HB5.out⟩
    by_cases k5 : k = 5
    · subst k5
      have HR : Hid (cmpV (.mk 5 b n s L ks) (.mk 5 b' n' s' M ms) = if keyC ks ms = 0 then lexC cmpV L M else keyC ks ms) := cmpV_map rfl rfl
      generalize cmpV (.mk 5 b n s L ks) (.mk 5 b' n' s' M ms) = q at *
      clear HCF
      generalize keyC ks ms = kk at *
      generalize lexC cmpV L M = qq at *
      generalize L.length = ll at *
      generalize M.length = ml at *
      generalize ks.length = kl at *
      generalize ms.length = nl at *
      as_aux_lemma =>
      go_enter Tryz.func89, Tryz.ntmps89
      go_wp2_with fail
      refine HCK.out.mono ?_
      rintro e w3 ⟨rfl, hu⟩
      have HCL3 := Lib.hid (HCL.out w3 hu)
      obtain ⟨j4, j4'⟩ := HG4.out w3 hu
      have HB5 := Lib.hid (HB.out.trans (hu.mono HB.out.size))
      clear hu HCK HCL HG4 g0 g1 g2 g3 g4 g5 f0 f1 f2 f3 f4 f5
      by_cases hq : kk = 0
      · have t1 : (kk == 0) = true := by rw [hq]; rfl
        have t1b : (kk != 0) = false := by rw [hq]; rfl
        have HN : Hid (q = qq) := by unfold Hid; rw [HR.out, if_pos hq]
        clear hq HR
        as_aux_lemma =>
        go_wp2_with fail
        refine HCL3.out.mono ?_
        rintro e w6 ⟨rfl, hu⟩
        have HB6 := Lib.hid (HB5.out.trans (hu.mono HB5.out.size))
        clear hu HCL3
        go_wp2_with fail
        go_ret
        exact ⟨by rw [HN.out] <;> rfl, HB6.out⟩
      · have t1 : (kk == 0) = false := by rw [beq_eq_false_iff_ne]; exact hq
        have t1b : (kk != 0) = true := by simp [bne, t1]
        have HN : Hid (q = kk) := by unfold Hid; rw [HR.out, if_neg hq]
        clear hq HR HCL3
        as_aux_lemma =>
        go_wp2_with fail
        go_ret
        exact ⟨by rw [HN.out] <;> rfl, HB5.out⟩
    · have HR : Hid (cmpV (.mk k b n s L ks) (.mk k b' n' s' M ms) = 0) := cmpV_other rfl (by show ¬ (1 ≤ k ∧ k ≤ 5); omega)
      have t1 : (k == 1) = false := by rw [beq_eq_false_iff_ne]; exact k1
      have t2 : (k == 2) = false := by rw [beq_eq_false_iff_ne]; exact k2
      have t3 : (k == 3) = false := by rw [beq_eq_false_iff_ne]; exact k3
      have t4 : (k == 4) = false := by rw [beq_eq_false_iff_ne]; exact k4
      have t5 : (k == 5) = false := by rw [beq_eq_false_iff_ne]; exact k5
      generalize cmpV (.mk k b n s L ks) (.mk k b' n' s' M ms) = q at *
      clear HCF HCL HCK HG4 k1 k2 k3 k4 k5
      as_aux_lemma =>
      go_enter Tryz.func89, Tryz.ntmps89
      go_wp2_with fail
      go_ret
      exact ⟨by rw [HR.out] <;> rfl, HB.out⟩
  · have HR : Hid (cmpV (.mk k b n s L ks) (.mk k' b' n' s' M ms) = cmpI k k') := cmpV_kind hk
    generalize cmpV (.mk k b n s L ks) (.mk k' b' n' s' M ms) = q at *
    clear HCF HCL HCK HG4
    have t1 : (k == k') = false := by rw [beq_eq_false_iff_ne]; exact hk
    have t1b : (k != k') = true := by simp [bne, t1]
    have HC : Hid (cmpI k k' = if k < k' then -1 else if k' < k then 1 else 0) := rfl
    by_cases h1 : k < k'
    · have HN : Hid (q = -1) := by unfold Hid; rw [HR.out, HC.out, if_pos h1]
      have tl : decide (k < k') = true := decide_eq_true h1
      clear HR HC h1 hk
      as_aux_lemma =>
      go_enter Tryz.func89, Tryz.ntmps89
      go_wp2_with fail
      refine (SG _ _).out.mono ?_
      rintro e w6 ⟨rfl, hw⟩
      rw [hw]
      clear hw w6
      go_wp2_with fail
      go_ret
      exact ⟨by rw [HN.out]; first | rfl | (rw [tl]; rfl), HB.out⟩
    · have HN : Hid (q = 1) := by unfold Hid; rw [HR.out, HC.out, if_neg h1, if_pos (by omega)]
      have tl : decide (k < k') = false := decide_eq_false h1
      clear HR HC h1 hk
      as_aux_lemma =>
      go_enter Tryz.func89, Tryz.ntmps89
      go_wp2_with fail
      refine (SG _ _).out.mono ?_
      rintro e w6 ⟨rfl, hw⟩
      rw [hw]
      clear hw w6
      go_wp2_with fail
      go_ret
      exact ⟨by rw [HN.out]; first | rfl | (rw [tl]; rfl), HB.out⟩
theorem rcmp_all : ∀ (m : Nat) (t : VT), SizeOf.sizeOf t ≤ m → t.wf → RcmpCalls t
  | 0, t, hm, _ => by
    cases t
    simp only [VT.mk.sizeOf_spec] at hm
    omega
  | m + 1, .mk k b n s L ks, hm, hwf =>
    rcmp_it k b n s L ks hwf fun t ht => rcmp_all m t (by have := vt_lt (k := k) (b := b) (n := n) (s := s) (ks := ks) ht; omega) ((VT.wf_parts hwf).2.2.2.2.2.2 t ht)
/-- the reference's Compare of any two values -/
theorem rvcompare_any (x y : VT) (hx : x.wf) (hy : y.wf) (v u : Value) (W : World) (h1 : VAt W v x) (h2 : VAt W u y) : Calls Tryz.prog 89 #[v, u] W fun e w' => e = .returned (.int .i64 (cmpV x y)) ∧ Below W.heap.size W w' := by
  obtain ⟨cs, rfl, hc⟩ := h1
  obtain ⟨cs', rfl, hc'⟩ := h2
  exact rcmp_all _ x (Nat.le_refl _) hx y hy cs cs' W hc hc'
end Go.Proofs.YtomecnncighkgaaGreatDoor
