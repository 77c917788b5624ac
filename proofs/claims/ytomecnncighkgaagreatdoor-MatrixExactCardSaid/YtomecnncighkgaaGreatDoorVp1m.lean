/- The walks over cmp.Compare at numbers, over slices.CompareFunc at keys and at values. -/
import Derived.Test.YtomecnncighkgaaGreatDoorVa2
import Derived.Test.YtomecnncighkgaaGreatDoorVcm
import Derived.Test.YtomecnncighkgaaGreatDoorNw2
import Derived.BigQuiet
namespace Go.Proofs.YtomecnncighkgaaGreatDoor
open Go.RowKit

set_option maxRecDepth 100000 in
theorem cmpZ_any (x y : Int) (w : World) : Calls Tryz.prog 87 #[.int .i64 x, .int .i64 y] w fun e w' => e = .returned (.int .i64 (cmpI x y)) ∧ w' = w := by
  have HC : Hid (cmpI x y = if x < y then -1 else if y < x then 1 else 0) := rfl
  go_enter Tryz.func87, Tryz.ntmps87
  go_wp2_with fail
  refine (nanI_any _ _ rfl w).mono ?_
  rintro e w1 ⟨rfl, rfl⟩
  go_wp2_with fail
  refine (nanI_any _ _ rfl w1).mono ?_
  rintro e w2 ⟨rfl, rfl⟩
  by_cases h1 : x < y
  · rw [if_pos h1] at HC
    go_wp2_with fail
    go_ret
    exact ⟨by rw [HC.out]; rfl, rfl⟩
  · rw [if_neg h1] at HC
    by_cases h2 : y < x
    · rw [if_pos h2] at HC
      go_wp2_with fail
      go_ret
      exact ⟨by rw [HC.out]; rfl, rfl⟩
    · rw [if_neg h2] at HC
      go_wp2_with fail
      go_ret
      exact ⟨by rw [HC.out]; rfl, rfl⟩

theorem compareEnters : ∀ args w, (callFunc 62 args).run Tryz.prog w = .ok (.enter 62 args) w := enters_of Tryz.func62 (by kernel_rfl) rfl
theorem vcompareEnters : ∀ args w, (callFunc 73 args).run Tryz.prog w = .ok (.enter 73 args) w := enters_of Tryz.func73 (by kernel_rfl) rfl

def CkRel (L M : List ByteArray) (w1 : World) (f : Nat) (t13 : Value) (wr : World) : Prop :=
  ∃ i : Nat, t13 = .int .i64 (i : Nat) ∧ i ≤ L.length ∧ f = L.length - i ∧ keyC L M = lexC (fun x y : ByteArray => natC x.data.toList y.data.toList) (L.drop i) (M.drop i) ∧ Below w1.heap.size w1 wr
theorem vcell_slices0 {w : World} {t : VT} {cs : List Value} (h : VCell w t cs) : ∃ k b n s lo ln lc ko kn kc, cs = [.int .i64 k, .bool b, .int .i64 n, .string s, .slice lo ln lc, .slice ko kn kc] := by
  cases t
  rw [vcell_mk] at h
  obtain ⟨lv, kv, rfl, h1, h2⟩ := h
  obtain ⟨ko, kc, rfl⟩ := h1.form
  obtain ⟨lo, lc, rfl⟩ := vlist_slice h2
  exact ⟨_, _, _, _, _, _, _, _, _, _, rfl⟩
theorem getD_at {l : List ByteArray} {i : Nat} (h : i < l.length) : l.getD i ByteArray.empty = l[i] := by
  rw [List.getD, List.getElem?_eq_getElem h]; rfl

set_option maxRecDepth 100000 in
set_option maxHeartbeats 1600000 in
theorem cmpfk_any (L M : List ByteArray) (lo mo : Option Addr) (lc mc : Nat) (hl : L.length ≤ 9223372036854775807) (hsl : ∀ x ∈ L, x.size ≤ 9223372036854775807) (hsm : ∀ x ∈ M, x.size ≤ 9223372036854775807) (w : World)
    (hL : StrsAt w (.slice lo L.length lc) L) (hM : StrsAt w (.slice mo M.length mc) M) :
    Calls Tryz.prog 93 #[.slice lo L.length lc, .slice mo M.length mc, .func (.func 62) #[] #[]] w fun e w' => e = .returned (.int .i64 (keyC L M)) ∧ Below w.heap.size w w' := by
  have HL := Lib.hid hL
  have HM := Lib.hid hM
  have HSL := Lib.hid hsl
  have HSM := Lib.hid hsm
  have eg := compareEnters
  have HK0 := Lib.hid (keyC_def L M)
  clear hL hM hsl hsm
  go_enter Tryz.func93, Tryz.ntmps93
  go_wp2_with fail
  go_loopg [13] L.length (CkRel L M w)
  case atStart => exact ⟨0, rfl, Nat.zero_le _, rfl, by rw [HK0.out]; rfl, Below.refl _ w⟩
  case round =>
    obtain ⟨i, rfl, hi, rfl, hlx, hbel⟩ := hrel
    have HLX := Lib.hid hlx
    have HB := Lib.hid hbel
    clear hlx hbel
    by_cases hlt : i < L.length
    · obtain ⟨b1, o1, rfl, _, hc1⟩ := (HL.out.below HB.out).at_ hlt
      have hii : (i : Int) < (L.length : Int) := by omega
      rw [getD_at hlt] at hc1
      by_cases hlm : i < M.length
      · obtain ⟨b2, o2, rfl, _, hc2⟩ := (HM.out.below HB.out).at_ hlm
        rw [getD_at hlm] at hc2
        have HST := Lib.hid (lexC_step (C := fun x y : ByteArray => natC x.data.toList y.data.toList) hlt hlm)
        have him : decide ((M.length : Int) ≤ (i : Int)) = false := decide_eq_false (by omega)
        have him2 : (i : Int) < (M.length : Int) := by omega
        have CC := Lib.hid (compare_any L[i] M[i] (HSL.out _ (List.getElem_mem hlt)) (HSM.out _ (List.getElem_mem hlm)) wr)
        generalize L[i] = x at *
        generalize M[i] = y at *
        generalize natC x.data.toList y.data.toList = q at *
        as_aux_lemma =>
        go_wp2_with fail
        refine CC.out.mono ?_
        rintro e w5 ⟨rfl, hu⟩
        have HB5 := Lib.hid (HB.out.trans (hu.b.mono HB.out.size))
        clear hu CC
        by_cases hq : q = 0
        · have t1 : (q == 0) = true := by rw [hq]; rfl
          have t1b : (q != 0) = false := by rw [hq]; rfl
          have HN : Hid (keyC L M = lexC (fun x y : ByteArray => natC x.data.toList y.data.toList) (L.drop (i + 1)) (M.drop (i + 1))) := by unfold Hid; rw [HLX.out, HST.out, if_pos hq]
          clear hq HST HLX
          as_aux_lemma =>
          go_wp2_with fail
          go_roundg (L.length - (i + 1))
          case measure => omega
          case rel => exact ⟨i + 1, by go_num, by omega, rfl, HN.out, HB5.out⟩
        · have t1 : (q == 0) = false := by rw [beq_eq_false_iff_ne]; exact hq
          have t1b : (q != 0) = true := by simp [bne, t1]
          have HN : Hid (keyC L M = q) := by unfold Hid; rw [HLX.out, HST.out, if_neg hq]
          clear hq HST HLX
          as_aux_lemma =>
          go_wp2_with fail
          go_ret
          exact ⟨by rw [HN.out] <;> rfl, HB5.out⟩
      · have him : (M.length : Int) ≤ (i : Int) := by omega
        have HN : Hid (keyC L M = 1) := by unfold Hid; rw [HLX.out, lexC_over hlt (by omega)]
        clear HLX
        generalize L[i] = x at *
        as_aux_lemma =>
        go_wp2_with fail
        go_ret
        exact ⟨by rw [HN.out] <;> rfl, HB.out⟩
    · have hii : ¬ (i : Int) < (L.length : Int) := by omega
      have he : i = L.length := by omega
      have HE : Hid (keyC L M = if L.length < M.length then -1 else 0) := by unfold Hid; rw [HLX.out, he, lexC_end]
      clear HLX he
      by_cases hm : L.length < M.length
      · have him : (L.length : Int) < (M.length : Int) := by omega
        have HN : Hid (keyC L M = -1) := by unfold Hid; rw [HE.out, if_pos hm]
        clear HE hm
        as_aux_lemma =>
        go_wp2_with fail
        go_ret
        exact ⟨by rw [HN.out] <;> rfl, HB.out⟩
      · have him : ¬ (L.length : Int) < (M.length : Int) := by omega
        have HN : Hid (keyC L M = 0) := by unfold Hid; rw [HE.out, if_neg hm]
        clear HE hm
        as_aux_lemma =>
        go_wp2_with fail
        go_ret
        exact ⟨by rw [HN.out] <;> rfl, HB.out⟩

/-! ### lists of values -/
def CmpCalls (x : VT) : Prop := ∀ (y : VT), y.wf → ∀ cs cs' W, VCell W x cs → VCell W y cs' → Calls Tryz.prog 73 #[.agg cs.toArray, .agg cs'.toArray] W fun e w' => e = .returned (.int .i64 (cmpV x y)) ∧ Below W.heap.size W w'
def CvRel (L M : List VT) (w1 : World) (f : Nat) (t13 : Value) (wr : World) : Prop :=
  ∃ i : Nat, t13 = .int .i64 (i : Nat) ∧ i ≤ L.length ∧ f = L.length - i ∧ lexC cmpV L M = lexC cmpV (L.drop i) (M.drop i) ∧ Below w1.heap.size w1 wr

set_option maxRecDepth 100000 in
set_option maxHeartbeats 1600000 in
theorem cmpfv_any (L M : List VT) (lo mo : Option Addr) (lc mc : Nat) (hl : L.length ≤ 9223372036854775807) (hwf : ∀ y ∈ M, y.wf) (ih : ∀ x ∈ L, CmpCalls x) (w : World)
    (hL : VList w L (.slice lo L.length lc)) (hM : VList w M (.slice mo M.length mc)) :
    Calls Tryz.prog 92 #[.slice lo L.length lc, .slice mo M.length mc, .func (.func 73) #[] #[]] w fun e w' => e = .returned (.int .i64 (lexC cmpV L M)) ∧ Below w.heap.size w w' := by
  have HL := Lib.hid hL
  have HM := Lib.hid hM
  have HWF := Lib.hid hwf
  have IH := Lib.hid ih
  have eg := vcompareEnters
  clear hL hM hwf ih
  go_enter Tryz.func92, Tryz.ntmps92
  go_wp2_with fail
  go_loopg [13] L.length (CvRel L M w)
  case atStart => exact ⟨0, rfl, Nat.zero_le _, rfl, rfl, Below.refl _ w⟩
  case round =>
    obtain ⟨i, rfl, hi, rfl, hlx, hbel⟩ := hrel
    have HLX := Lib.hid hlx
    have HB := Lib.hid hbel
    clear hlx hbel
    have HA : Hid (∀ o, Below wr.heap.size wr (wr.alloc o)) := fun o => (Below.refl _ wr).alloc (Nat.le_refl _) o
    have HA2 : Hid (∀ o o2, Below wr.heap.size wr ((wr.alloc o).alloc o2)) := fun o o2 => ((Below.refl _ wr).alloc (Nat.le_refl _) o).alloc (by simp) o2
    by_cases hlt : i < L.length
    · obtain ⟨b1, o1, ce, rfl, hb1, hce, hvc⟩ := (HL.out.below HB.out).at hlt
      have hii : (i : Int) < (L.length : Int) := by omega
      obtain ⟨k1, c1, n1, s1, lo1, ln1, lc1, ko1, kn1, kc1, rfl⟩ := vcell_slices0 hvc
      have HVC := Lib.hid hvc
      have e0 := hce 0 _ rfl
      have e1 := hce 1 _ rfl
      have e2 := hce 2 _ rfl
      have e3 := hce 3 _ rfl
      have e4 := hce 4 _ rfl
      have e5 := hce 5 _ rfl
      rw [Nat.add_zero] at e0
      clear hce hvc
      by_cases hlm : i < M.length
      · obtain ⟨b2, o2, cf, rfl, hb2, hcf, hvd⟩ := (HM.out.below HB.out).at hlm
        obtain ⟨k2, c2, n2, s2, lo2, ln2, lc2, ko2, kn2, kc2, rfl⟩ := vcell_slices0 hvd
        have HVD := Lib.hid hvd
        have f0 := hcf 0 _ rfl
        have f1 := hcf 1 _ rfl
        have f2 := hcf 2 _ rfl
        have f3 := hcf 3 _ rfl
        have f4 := hcf 4 _ rfl
        have f5 := hcf 5 _ rfl
        rw [Nat.add_zero] at f0
        clear hcf hvd
        have HST := Lib.hid (lexC_step (C := cmpV) hlt hlm)
        have him : decide ((M.length : Int) ≤ (i : Int)) = false := decide_eq_false (by omega)
        have him2 : (i : Int) < (M.length : Int) := by omega
        have CC := Lib.hid (IH.out _ (List.getElem_mem hlt) _ (HWF.out _ (List.getElem_mem hlm)))
        unfold CmpCalls at CC
        generalize L[i] = x at *
        generalize M[i] = y at *
        as_aux_lemma =>
        go_wp2_with fail
        refine (CC.out _ _ _ (VCell.below (HA2.out _ _) _ _ HVC.out) (VCell.below (HA2.out _ _) _ _ HVD.out)).mono ?_
        rintro e w5 ⟨rfl, hu⟩
        have HB5 := Lib.hid (HB.out.trans (((HA2.out _ _).trans (hu.mono (HA2.out _ _).size)).mono HB.out.size))
        clear hu CC
        generalize cmpV x y = q at *
        by_cases hq : q = 0
        · have t1 : (q == 0) = true := by rw [hq]; rfl
          have t1b : (q != 0) = false := by rw [hq]; rfl
          have HN : Hid (lexC cmpV L M = lexC cmpV (L.drop (i + 1)) (M.drop (i + 1))) := by unfold Hid; rw [HLX.out, HST.out, if_pos hq]
          clear hq HST HLX
          as_aux_lemma =>
          go_wp2_with fail
          go_roundg (L.length - (i + 1))
          case measure => omega
          case rel => exact ⟨i + 1, by go_num, by omega, rfl, HN.out, HB5.out⟩
        · have t1 : (q == 0) = false := by rw [beq_eq_false_iff_ne]; exact hq
          have t1b : (q != 0) = true := by simp [bne, t1]
          have HN : Hid (lexC cmpV L M = q) := by unfold Hid; rw [HLX.out, HST.out, if_neg hq]
          clear hq HST HLX
          as_aux_lemma =>
          go_wp2_with fail
          go_ret
          exact ⟨by rw [HN.out] <;> rfl, HB5.out⟩
      · have him : (M.length : Int) ≤ (i : Int) := by omega
        have HN : Hid (lexC cmpV L M = 1) := by unfold Hid; rw [HLX.out, lexC_over hlt (by omega)]
        clear HLX
        as_aux_lemma =>
        go_wp2_with fail
        go_ret
        exact ⟨by rw [HN.out] <;> rfl, HB.out.trans ((HA.out _).mono HB.out.size)⟩
    · have hii : ¬ (i : Int) < (L.length : Int) := by omega
      have he : i = L.length := by omega
      have HE : Hid (lexC cmpV L M = if L.length < M.length then -1 else 0) := by unfold Hid; rw [HLX.out, he, lexC_end]
      clear HLX he
      by_cases hm : L.length < M.length
      · have him : (L.length : Int) < (M.length : Int) := by omega
        have HN : Hid (lexC cmpV L M = -1) := by unfold Hid; rw [HE.out, if_pos hm]
        clear HE hm
        as_aux_lemma =>
        go_wp2_with fail
        go_ret
        exact ⟨by rw [HN.out] <;> rfl, HB.out⟩
      · have him : ¬ (L.length : Int) < (M.length : Int) := by omega
        have HN : Hid (lexC cmpV L M = 0) := by unfold Hid; rw [HE.out, if_neg hm]
        clear HE hm
        as_aux_lemma =>
        go_wp2_with fail
        go_ret
        exact ⟨by rw [HN.out] <;> rfl, HB.out⟩
end Go.Proofs.YtomecnncighkgaaGreatDoor
/- The walks over value.Compare and value.Equal. -/
namespace Go.Proofs.YtomecnncighkgaaGreatDoor
open Go.RowKit

set_option maxRecDepth 100000 in
set_option maxHeartbeats 3200000 in
theorem cmp_it (k : Int) (b : Bool) (n : Int) (s : ByteArray) (L : List VT) (ks : List ByteArray) (hw : (VT.mk k b n s L ks).wf) (ih : ∀ x ∈ L, CmpCalls x) : CmpCalls (.mk k b n s L ks) := by
  intro y hy cs cs' W h1 h2
  cases y with
  | mk k' b' n' s' M ms =>
  obtain ⟨_, _, _, hl, hkl, hkz, _⟩ := VT.wf_parts hw
  obtain ⟨_, _, _, _, _, hmz, hmw⟩ := VT.wf_parts hy
  rw [vcell_mk] at h1 h2
  obtain ⟨v4, v5, rfl, hs, hL⟩ := h1
  obtain ⟨u4, u5, rfl, ht, hM⟩ := h2
  obtain ⟨ko, kc, rfl⟩ := hs.form
  obtain ⟨mo, mc, rfl⟩ := ht.form
  obtain ⟨lo, lc, rfl⟩ := vlist_slice hL
  obtain ⟨po, pc, rfl⟩ := vlist_slice hM
  obtain ⟨W1, hW1⟩ : ∃ W1, W.alloc (.cells #[.int .i64 k, .bool b, .int .i64 n, .string s, .slice lo L.length lc, .slice ko ks.length kc] 46 (0, 0)) = W1 := ⟨_, rfl⟩
  obtain ⟨W2, hW2⟩ : ∃ W2, W1.alloc (.cells #[.int .i64 k', .bool b', .int .i64 n', .string s', .slice po M.length pc, .slice mo ms.length mc] 46 (0, 0)) = W2 := ⟨_, rfl⟩
  have hs1 : W1.heap.size = W.heap.size + 1 := by rw [← hW1]; simp
  have hk1 : W2.heap[W.heap.size]? = some (.cells #[.int .i64 k, .bool b, .int .i64 n, .string s, .slice lo L.length lc, .slice ko ks.length kc] 46 (0, 0)) := by rw [← hW2]; exact (hp_old (by omega)).trans (by rw [← hW1]; exact hp_new rfl)
  have hk2 : W2.heap[W.heap.size + 1]? = some (.cells #[.int .i64 k', .bool b', .int .i64 n', .string s', .slice po M.length pc, .slice mo ms.length mc] 46 (0, 0)) := by rw [← hW2]; exact hp_new (by omega)
  have HB : Hid (Below W.heap.size W W2) := by unfold Hid; rw [← hW2, ← hW1]; exact ((Below.refl _ W).alloc (Nat.le_refl _) _).alloc (by simp) _
  have HCF := Lib.hid (cmpfv_any L M lo po lc pc hl hmw ih W2 (hL.below HB.out) (hM.below HB.out))
  have HCL : Hid (∀ W3, Below W2.heap.size W2 W3 → Calls Tryz.prog 92 #[.slice lo L.length lc, .slice po M.length pc, .func (.func 73) #[] #[]] W3 fun e w' => e = .returned (.int .i64 (lexC cmpV L M)) ∧ Below W3.heap.size W3 w') := fun W3 h3 => cmpfv_any L M lo po lc pc hl hmw ih W3 (hL.below (HB.out.trans (h3.mono HB.out.size))) (hM.below (HB.out.trans (h3.mono HB.out.size)))
  have HCK := Lib.hid (cmpfk_any ks ms ko mo kc mc hkl hkz hmz W2 (hs.below HB.out) (ht.below HB.out))
  have g0 : W2.cell? ⟨W.heap.size, 0, none⟩ = some (.int .i64 k) := cell_of_blk hk1 0
  have g1 : W2.cell? ⟨W.heap.size, 1, none⟩ = some (.bool b) := cell_of_blk hk1 1
  have g2 : W2.cell? ⟨W.heap.size, 2, none⟩ = some (.int .i64 n) := cell_of_blk hk1 2
  have g3 : W2.cell? ⟨W.heap.size, 3, none⟩ = some (.string s) := cell_of_blk hk1 3
  have g4 : W2.cell? ⟨W.heap.size, 4, none⟩ = some (.slice lo L.length lc) := cell_of_blk hk1 4
  have g5 : W2.cell? ⟨W.heap.size, 5, none⟩ = some (.slice ko ks.length kc) := cell_of_blk hk1 5
  have f0 : W2.cell? ⟨W.heap.size + 1, 0, none⟩ = some (.int .i64 k') := cell_of_blk hk2 0
  have f1 : W2.cell? ⟨W.heap.size + 1, 1, none⟩ = some (.bool b') := cell_of_blk hk2 1
  have f2 : W2.cell? ⟨W.heap.size + 1, 2, none⟩ = some (.int .i64 n') := cell_of_blk hk2 2
  have f3 : W2.cell? ⟨W.heap.size + 1, 3, none⟩ = some (.string s') := cell_of_blk hk2 3
  have f4 : W2.cell? ⟨W.heap.size + 1, 4, none⟩ = some (.slice po M.length pc) := cell_of_blk hk2 4
  have f5 : W2.cell? ⟨W.heap.size + 1, 5, none⟩ = some (.slice mo ms.length mc) := cell_of_blk hk2 5
  have HG4 : Hid (∀ W3, Below W2.heap.size W2 W3 → W3.cell? ⟨W.heap.size, 4, none⟩ = some (.slice lo L.length lc) ∧ W3.cell? ⟨W.heap.size + 1, 4, none⟩ = some (.slice po M.length pc)) := fun W3 h3 => by
    have z1 : W.heap.size < W2.heap.size := (Array.getElem?_eq_some_iff.1 hk1).1
    have z2 : W.heap.size + 1 < W2.heap.size := (Array.getElem?_eq_some_iff.1 hk2).1
    exact ⟨(h3.cell (p := ⟨W.heap.size, 4, none⟩) z1).trans g4, (h3.cell (p := ⟨W.heap.size + 1, 4, none⟩) z2).trans f4⟩
  have CK := Lib.hid (cmpZ_any k k' W2)
  clear hk1 hk2 hs ht hL hM ih hw hy hl hkl hkz hmz hmw
  by_cases hk : k = k'
  · subst hk
    rw [cmpI_self] at CK
    by_cases k1 : k = 1
    · subst k1
      have HR : Hid (cmpV (.mk 1 b n s L ks) (.mk 1 b' n' s' M ms) = cmpI (if b then 1 else 0) (if b' then 1 else 0)) := cmpV_bool rfl rfl
      have T1 := fun nq => Lib.hid (Calls.quiet_of_same (truth_any b (W2.drewN nq)))
      have T2 := fun nq => Lib.hid (Calls.quiet_of_same (truth_any b' (W2.drewN nq)))
      have CM := fun nq => Lib.hid (Calls.quiet_of_same (cmpZ_any (if b then 1 else 0) (if b' then 1 else 0) (W2.drewN nq)))
      generalize cmpV (.mk 1 b n s L ks) (.mk 1 b' n' s' M ms) = q at *
      clear HCF HCL HCK HG4
      generalize (if b then (1 : Int) else 0) = p at *
      generalize (if b' then (1 : Int) else 0) = p' at *
      generalize cmpI p p' = qq at *
      as_aux_lemma =>
      go_enter Tryz.func73, Tryz.ntmps73
      go_wp2_with fail
      refine CK.out.mono ?_
      rintro e w1 ⟨rfl, hw⟩
      rw [hw]
      clear hw w1 CK
      go_upto_region 6 with fail
      go_quiet ((first
        | (go_at_call 90; first | with_reducible exact (T1 _).out | with_reducible exact (T2 _).out)
        | (go_at_call 87; with_reducible exact (CM _).out)))
      rename_i nq
      have HB5 : Hid (Below W.heap.size W (W2.drewN nq)) := ⟨HB.out.os, HB.out.tape, HB.out.output, HB.out.size, HB.out.block⟩
      go_wp2_with fail
      go_ret
      exact ⟨by rw [HR.out] <;> rfl, HB5.out⟩
    by_cases k2 : k = 2
    · subst k2
      have HR : Hid (cmpV (.mk 2 b n s L ks) (.mk 2 b' n' s' M ms) = cmpI n n') := cmpV_int rfl rfl
      have CM := Lib.hid (cmpZ_any n n' W2)
      generalize cmpV (.mk 2 b n s L ks) (.mk 2 b' n' s' M ms) = q at *
      clear HCF HCL HCK HG4
      generalize cmpI n n' = qq at *
      as_aux_lemma =>
      go_enter Tryz.func73, Tryz.ntmps73
      go_wp2_with fail
      refine CK.out.mono ?_
      rintro e w1 ⟨rfl, hw⟩
      rw [hw]
      clear hw w1 CK
      go_wp2_with fail
      refine CM.out.mono ?_
      rintro e w1 ⟨rfl, hw⟩
      rw [hw]
      clear hw w1 CM
      go_wp2_with fail
      go_ret
      exact ⟨by rw [HR.out] <;> rfl, HB.out⟩
    by_cases k3 : k = 3
    · subst k3
      have HR : Hid (cmpV (.mk 3 b n s L ks) (.mk 3 b' n' s' M ms) = cmpS s.data.toList s'.data.toList) := cmpV_str rfl rfl
      have CM := Lib.hid (cmpS_any s s' W2)
      generalize cmpV (.mk 3 b n s L ks) (.mk 3 b' n' s' M ms) = q at *
      clear HCF HCL HCK HG4
      generalize cmpS s.data.toList s'.data.toList = qq at *
      as_aux_lemma =>
      go_enter Tryz.func73, Tryz.ntmps73
      go_wp2_with fail
      refine CK.out.mono ?_
      rintro e w1 ⟨rfl, hw⟩
      rw [hw]
      clear hw w1 CK
      go_wp2_with fail
      refine CM.out.mono ?_
      rintro e w1 ⟨rfl, hw⟩
      rw [hw]
      clear hw w1 CM
      go_wp2_with fail
      go_ret
      exact ⟨by rw [HR.out] <;> rfl, HB.out⟩
    by_cases k4 : k = 4
    · subst k4
      have HR : Hid (cmpV (.mk 4 b n s L ks) (.mk 4 b' n' s' M ms) = lexC cmpV L M) := cmpV_list rfl rfl
      generalize cmpV (.mk 4 b n s L ks) (.mk 4 b' n' s' M ms) = q at *
      clear HCL HCK HG4
      generalize lexC cmpV L M = qq at *
      generalize L.length = ll at *
      generalize M.length = ml at *
      as_aux_lemma =>
      go_enter Tryz.func73, Tryz.ntmps73
      go_wp2_with fail
      refine CK.out.mono ?_
      rintro e w1 ⟨rfl, hw⟩
      rw [hw]
      clear hw w1 CK
      go_wp2_with fail
      refine HCF.out.mono ?_
      rintro e w1 ⟨rfl, hu⟩
      have HB5 := Lib.hid (HB.out.trans (hu.mono HB.out.size))
      clear hu HCF
      go_wp2_with fail
      go_ret
      exact ⟨by rw [HR.out] <;> rfl, HB5.out⟩
    by_cases k5 : k = 5
    · subst k5
      have HR : Hid (cmpV (.mk 5 b n s L ks) (.mk 5 b' n' s' M ms) = if keyC ks ms = 0 then lexC cmpV L M else keyC ks ms) := cmpV_map rfl rfl
      generalize cmpV (.mk 5 b n s L ks) (.mk 5 b' n' s' M ms) = q at *
      clear HCF
      generalize keyC ks ms = kk at *
      generalize lexC cmpV L M = qq at *
      generalize L.length = ll at *
      generalize M.length = ml at *
      generalize ks.length = kl at *
      generalize ms.length = nl at *
      as_aux_lemma =>
      go_enter Tryz.func73, Tryz.ntmps73
      go_wp2_with fail
      refine CK.out.mono ?_
      rintro e w1 ⟨rfl, hw⟩
      rw [hw]
      clear hw w1 CK
      go_wp2_with fail
      refine HCK.out.mono ?_
      rintro e w3 ⟨rfl, hu⟩
      have HCL3 := Lib.hid (HCL.out w3 hu)
      obtain ⟨j4, j4'⟩ := HG4.out w3 hu
      have HB5 := Lib.hid (HB.out.trans (hu.mono HB.out.size))
      clear hu HCK HCL HG4 g0 g1 g2 g3 g4 g5 f0 f1 f2 f3 f4 f5
      by_cases hq : kk = 0
      · have t1 : (kk == 0) = true := by rw [hq]; rfl
        have t1b : (kk != 0) = false := by rw [hq]; rfl
        have HN : Hid (q = qq) := by unfold Hid; rw [HR.out, if_pos hq]
        clear hq HR
        as_aux_lemma =>
        go_wp2_with fail
        refine HCL3.out.mono ?_
        rintro e w6 ⟨rfl, hu⟩
        have HB6 := Lib.hid (HB5.out.trans (hu.mono HB5.out.size))
        clear hu HCL3
        go_wp2_with fail
        go_ret
        exact ⟨by rw [HN.out] <;> rfl, HB6.out⟩
      · have t1 : (kk == 0) = false := by rw [beq_eq_false_iff_ne]; exact hq
        have t1b : (kk != 0) = true := by simp [bne, t1]
        have HN : Hid (q = kk) := by unfold Hid; rw [HR.out, if_neg hq]
        clear hq HR HCL3
        as_aux_lemma =>
        go_wp2_with fail
        go_ret
        exact ⟨by rw [HN.out] <;> rfl, HB5.out⟩
    · have HR : Hid (cmpV (.mk k b n s L ks) (.mk k b' n' s' M ms) = 0) := cmpV_other rfl (by show ¬ (1 ≤ k ∧ k ≤ 5); omega)
      have t1 : (k == 1) = false := by rw [beq_eq_false_iff_ne]; exact k1
      have t2 : (k == 2) = false := by rw [beq_eq_false_iff_ne]; exact k2
      have t3 : (k == 3) = false := by rw [beq_eq_false_iff_ne]; exact k3
      have t4 : (k == 4) = false := by rw [beq_eq_false_iff_ne]; exact k4
      have t5 : (k == 5) = false := by rw [beq_eq_false_iff_ne]; exact k5
      generalize cmpV (.mk k b n s L ks) (.mk k b' n' s' M ms) = q at *
      clear HCF HCL HCK HG4 k1 k2 k3 k4 k5
      as_aux_lemma =>
      go_enter Tryz.func73, Tryz.ntmps73
      go_wp2_with fail
      refine CK.out.mono ?_
      rintro e w1 ⟨rfl, hw⟩
      rw [hw]
      clear hw w1 CK
      go_wp2_with fail
      go_ret
      exact ⟨by rw [HR.out] <;> rfl, HB.out⟩
  · have HR : Hid (cmpV (.mk k b n s L ks) (.mk k' b' n' s' M ms) = cmpI k k') := cmpV_kind hk
    have hne : cmpI k k' ≠ 0 := fun h => hk (cmpI_eq h)
    generalize cmpV (.mk k b n s L ks) (.mk k' b' n' s' M ms) = q at *
    clear HCF HCL HCK HG4 hk
    generalize cmpI k k' = qq at *
    have t1 : (qq == 0) = false := by rw [beq_eq_false_iff_ne]; exact hne
    have t1b : (qq != 0) = true := by simp [bne, t1]
    clear hne
    as_aux_lemma =>
    go_enter Tryz.func73, Tryz.ntmps73
    go_wp2_with fail
    refine CK.out.mono ?_
    rintro e w1 ⟨rfl, hw⟩
    rw [hw]
    clear hw w1 CK
    go_wp2_with fail
    go_ret
    exact ⟨by rw [HR.out] <;> rfl, HB.out⟩
theorem cmp_all : ∀ (m : Nat) (t : VT), SizeOf.sizeOf t ≤ m → t.wf → CmpCalls t
  | 0, t, hm, _ => by
    cases t
    simp only [VT.mk.sizeOf_spec] at hm
    omega
  | m + 1, .mk k b n s L ks, hm, hwf =>
    cmp_it k b n s L ks hwf fun t ht => cmp_all m t (by have := vt_lt (k := k) (b := b) (n := n) (s := s) (ks := ks) ht; omega) ((VT.wf_parts hwf).2.2.2.2.2.2 t ht)
/-- value.Compare of any two values -/
theorem vcompare_any (x y : VT) (hx : x.wf) (hy : y.wf) (v u : Value) (W : World) (h1 : VAt W v x) (h2 : VAt W u y) : Calls Tryz.prog 73 #[v, u] W fun e w' => e = .returned (.int .i64 (cmpV x y)) ∧ Below W.heap.size W w' := by
  obtain ⟨cs, rfl, hc⟩ := h1
  obtain ⟨cs', rfl, hc'⟩ := h2
  exact cmp_all _ x (Nat.le_refl _) hx y hy cs cs' W hc hc'

set_option maxRecDepth 100000 in
set_option maxHeartbeats 1600000 in
theorem equal_any (x y : VT) (hx : x.wf) (hy : y.wf) (v u : Value) (W : World) (h1 : VAt W v x) (h2 : VAt W u y) : Calls Tryz.prog 45 #[v, u] W fun e w' => e = .returned (.bool (decide (cmpV x y = 0))) ∧ Below W.heap.size W w' := by
  have HC : Hid (∀ W3, Below W.heap.size W W3 → Calls Tryz.prog 73 #[v, u] W3 fun e w' => e = .returned (.int .i64 (cmpV x y)) ∧ Below W3.heap.size W3 w') := fun W3 h3 => vcompare_any x y hx hy v u W3 (h1.below h3) (h2.below h3)
  obtain ⟨cs, rfl, hc⟩ := h1
  obtain ⟨cs', rfl, hc'⟩ := h2
  obtain ⟨k1, c1, n1, s1, lo1, ln1, lc1, ko1, kn1, kc1, rfl⟩ := vcell_slices0 hc
  obtain ⟨k2, c2, n2, s2, lo2, ln2, lc2, ko2, kn2, kc2, rfl⟩ := vcell_slices0 hc'
  have HA2 : Hid (∀ o o2, Below W.heap.size W ((W.alloc o).alloc o2)) := fun o o2 => ((Below.refl _ W).alloc (Nat.le_refl _) o).alloc (by simp) o2
  clear hc hc'
  generalize cmpV x y = q at *
  have HD : Hid ((q == 0) = decide (q = 0)) := by unfold Hid; rw [Bool.eq_iff_iff]; simp
  go_enter Tryz.func45, Tryz.ntmps45
  go_wp2_with fail
  refine (HC.out _ (HA2.out _ _)).mono ?_
  rintro e w5 ⟨rfl, hu⟩
  have HB5 := Lib.hid ((HA2.out _ _).trans (hu.mono (HA2.out _ _).size))
  clear hu HC
  go_wp2_with fail
  go_ret
  exact ⟨by first | rfl | rw [HD.out] | simp [HD.out], HB5.out⟩
end Go.Proofs.YtomecnncighkgaaGreatDoor
