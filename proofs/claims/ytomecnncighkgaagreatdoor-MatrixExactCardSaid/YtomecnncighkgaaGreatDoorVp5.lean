/- The walks over the reference's Same and SameVars. -/
import Derived.Test.YtomecnncighkgaaGreatDoorVp1m
import Derived.StillTailTactics
import Derived.BigQuiet
namespace Go.Proofs.YtomecnncighkgaaGreatDoor
open Go.RowKit

theorem same_no {x y : VT} (h : x ≠ y) : sameV x y = false := by rw [Bool.eq_false_iff]; exact fun k => h ((sameV_iff x y).1 k)
theorem same_yes {x y : VT} (h : x = y) : sameV x y = true := (sameV_iff x y).2 h
theorem bytes_beq {x y : ByteArray} : (x.toList == y.toList) = true ↔ x = y := by
  rw [beq_iff_eq, Lib.toList_data, Lib.toList_data]
  exact ⟨bytes_ext, fun h => by rw [h]⟩
theorem take_succ_eq {α : Type} {a b : List α} {i : Nat} (h : i < a.length) (k : i < b.length) (ht : a.take i = b.take i) (he : a[i] = b[i]) : a.take (i + 1) = b.take (i + 1) := by
  rw [List.take_succ_eq_append_getElem h, List.take_succ_eq_append_getElem k, ht, he]
theorem take_len_eq {α : Type} {a b : List α} (h : a.length = b.length) (ht : a.take a.length = b.take a.length) : a = b := by
  rw [List.take_length, h, List.take_length] at ht; exact ht
theorem ne_at {α : Type} {a b : List α} {i : Nat} (h : i < a.length) (k : i < b.length) (he : a[i] ≠ b[i]) : a ≠ b := by
  rintro rfl; exact he rfl

def SmK (ks ms : List ByteArray) (w1 : World) (f : Nat) (t5 : Value) (wr : World) : Prop :=
  ∃ i : Nat, t5 = .int .i64 (i : Nat) ∧ i ≤ ks.length ∧ f = ks.length - i ∧ ks.take i = ms.take i ∧ Below w1.heap.size w1 wr
def SmL (L M : List VT) (w1 : World) (f : Nat) (t6 : Value) (wr : World) : Prop :=
  ∃ i : Nat, t6 = .int .i64 (i : Nat) ∧ i ≤ L.length ∧ f = L.length - i ∧ L.take i = M.take i ∧ Below w1.heap.size w1 wr
def SameCalls (x : VT) : Prop := ∀ (y : VT), y.wf → ∀ cs cs' W, VCell W x cs → VCell W y cs' → Calls Tryz.prog 63 #[.agg cs.toArray, .agg cs'.toArray] W fun e w' => e = .returned (.bool (sameV x y)) ∧ Below W.heap.size W w'

set_option maxRecDepth 100000 in
set_option maxHeartbeats 3200000 in
theorem same_it (k : Int) (b : Bool) (n : Int) (s : ByteArray) (L : List VT) (ks : List ByteArray) (hw : (VT.mk k b n s L ks).wf) (ih : ∀ x ∈ L, SameCalls x) : SameCalls (.mk k b n s L ks) := by
  intro y hy cs cs' W h1 h2
  cases y with
  | mk k' b' n' s' M ms =>
  obtain ⟨_, _, _, hl, hkl, hkz, _⟩ := VT.wf_parts hw
  obtain ⟨_, _, _, _, _, hmz, hmw⟩ := VT.wf_parts hy
  change L.length ≤ _ at hl
  change ks.length ≤ _ at hkl
  rw [vcell_mk] at h1 h2
  obtain ⟨v4, v5, rfl, hs, hL⟩ := h1
  obtain ⟨u4, u5, rfl, ht, hM⟩ := h2
  obtain ⟨ko, kc, rfl⟩ := hs.form
  obtain ⟨mo, mc, rfl⟩ := ht.form
  obtain ⟨lo, lc, rfl⟩ := vlist_slice hL
  obtain ⟨po, pc, rfl⟩ := vlist_slice hM
  obtain ⟨W1, hW1⟩ : ∃ W1, W.alloc (.cells #[.int .i64 k, .bool b, .int .i64 n, .string s, .slice lo L.length lc, .slice ko ks.length kc] 46 (0, 0)) = W1 := ⟨_, rfl⟩
  obtain ⟨W2, hW2⟩ : ∃ W2, W1.alloc (.cells #[.int .i64 k', .bool b', .int .i64 n', .string s', .slice po M.length pc, .slice mo ms.length mc] 46 (0, 0)) = W2 := ⟨_, rfl⟩
  have hs1 : W1.heap.size = W.heap.size + 1 := by rw [← hW1]; simp
  have hk1 : W2.heap[W.heap.size]? = some (.cells #[.int .i64 k, .bool b, .int .i64 n, .string s, .slice lo L.length lc, .slice ko ks.length kc] 46 (0, 0)) := by rw [← hW2]; exact (hp_old (by omega)).trans (by rw [← hW1]; exact hp_new rfl)
  have hk2 : W2.heap[W.heap.size + 1]? = some (.cells #[.int .i64 k', .bool b', .int .i64 n', .string s', .slice po M.length pc, .slice mo ms.length mc] 46 (0, 0)) := by rw [← hW2]; exact hp_new (by omega)
  have HB : Hid (Below W.heap.size W W2) := by unfold Hid; rw [← hW2, ← hW1]; exact ((Below.refl _ W).alloc (Nat.le_refl _) _).alloc (by simp) _
  have HL := Lib.hid (hL.below HB.out)
  have HM := Lib.hid (hM.below HB.out)
  have HKS := Lib.hid (hs.below HB.out)
  have HMS := Lib.hid (ht.below HB.out)
  have HMW := Lib.hid hmw
  have IH := Lib.hid ih
  have HG : Hid (∀ W3, Below W2.heap.size W2 W3 → W3.cell? ⟨W.heap.size, 4, none⟩ = some (.slice lo L.length lc) ∧ W3.cell? ⟨W.heap.size + 1, 4, none⟩ = some (.slice po M.length pc) ∧ W3.cell? ⟨W.heap.size, 5, none⟩ = some (.slice ko ks.length kc) ∧ W3.cell? ⟨W.heap.size + 1, 5, none⟩ = some (.slice mo ms.length mc)) := fun W3 h3 => by
    have z1 : W.heap.size < W2.heap.size := (Array.getElem?_eq_some_iff.1 hk1).1
    have z2 : W.heap.size + 1 < W2.heap.size := (Array.getElem?_eq_some_iff.1 hk2).1
    have y1 := (h3.block _ z1).trans hk1
    have y2 := (h3.block _ z2).trans hk2
    exact ⟨cell_of_blk y1 4, cell_of_blk y2 4, cell_of_blk y1 5, cell_of_blk y2 5⟩
  have g0 : W2.cell? ⟨W.heap.size, 0, none⟩ = some (.int .i64 k) := cell_of_blk hk1 0
  have g1 : W2.cell? ⟨W.heap.size, 1, none⟩ = some (.bool b) := cell_of_blk hk1 1
  have g2 : W2.cell? ⟨W.heap.size, 2, none⟩ = some (.int .i64 n) := cell_of_blk hk1 2
  have g3 : W2.cell? ⟨W.heap.size, 3, none⟩ = some (.string s) := cell_of_blk hk1 3
  have g4 : W2.cell? ⟨W.heap.size, 4, none⟩ = some (.slice lo L.length lc) := cell_of_blk hk1 4
  have g5 : W2.cell? ⟨W.heap.size, 5, none⟩ = some (.slice ko ks.length kc) := cell_of_blk hk1 5
  have f0 : W2.cell? ⟨W.heap.size + 1, 0, none⟩ = some (.int .i64 k') := cell_of_blk hk2 0
  have f1 : W2.cell? ⟨W.heap.size + 1, 1, none⟩ = some (.bool b') := cell_of_blk hk2 1
  have f2 : W2.cell? ⟨W.heap.size + 1, 2, none⟩ = some (.int .i64 n') := cell_of_blk hk2 2
  have f3 : W2.cell? ⟨W.heap.size + 1, 3, none⟩ = some (.string s') := cell_of_blk hk2 3
  have f4 : W2.cell? ⟨W.heap.size + 1, 4, none⟩ = some (.slice po M.length pc) := cell_of_blk hk2 4
  have f5 : W2.cell? ⟨W.heap.size + 1, 5, none⟩ = some (.slice mo ms.length mc) := cell_of_blk hk2 5
  have HNO : Hid (VT.mk k b n s L ks ≠ .mk k' b' n' s' M ms → sameV (.mk k b n s L ks) (.mk k' b' n' s' M ms) = false) := fun h => same_no h
  have HYES : Hid (VT.mk k b n s L ks = .mk k' b' n' s' M ms → sameV (.mk k b n s L ks) (.mk k' b' n' s' M ms) = true) := fun h => same_yes h
  clear hk1 hk2 hs ht hL hM ih hw hy hkz hmz hmw
  generalize sameV (.mk k b n s L ks) (.mk k' b' n' s' M ms) = q at *
  by_cases hk : k ≠ k'
  · have HN : Hid (q = false) := HNO.out (fun h => hk (congrArg VT.kind h))
    have t1 : (k == k') = false := by rw [beq_eq_false_iff_ne]; exact hk
    have t1b : (k != k') = true := by simp [bne, t1]
    clear HNO HYES hk HL HM HKS HMS HMW IH HG
    generalize L.length = x1 at *
    generalize M.length = x2 at *
    generalize ks.length = x3 at *
    generalize ms.length = x4 at *
    as_aux_lemma =>
    go_enter Tryz.func63, Tryz.ntmps63
    go_wp2_with fail
    go_ret
    exact ⟨by rw [HN.out] <;> rfl, HB.out⟩
  have hk := Classical.not_not.1 hk
  subst hk
  by_cases hb : b ≠ b'
  · have HN : Hid (q = false) := HNO.out (fun h => hb (congrArg VT.bool h))
    clear HNO HYES HL HM HKS HMS HMW IH HG
    generalize L.length = x1 at *
    generalize M.length = x2 at *
    generalize ks.length = x3 at *
    generalize ms.length = x4 at *
    cases b
    · cases b'
      · exact absurd rfl hb
      · clear hb
        as_aux_lemma =>
        go_enter Tryz.func63, Tryz.ntmps63
        go_wp2_with fail
        go_ret
        exact ⟨by rw [HN.out] <;> rfl, HB.out⟩
    · cases b'
      · clear hb
        as_aux_lemma =>
        go_enter Tryz.func63, Tryz.ntmps63
        go_wp2_with fail
        go_ret
        exact ⟨by rw [HN.out] <;> rfl, HB.out⟩
      · exact absurd rfl hb
  have hb := Classical.not_not.1 hb
  subst hb
  by_cases hn : n ≠ n'
  · have HN : Hid (q = false) := HNO.out (fun h => hn (congrArg VT.int h))
    have t1 : (n == n') = false := by rw [beq_eq_false_iff_ne]; exact hn
    have t1b : (n != n') = true := by simp [bne, t1]
    clear HNO HYES hn HL HM HKS HMS HMW IH HG
    generalize L.length = x1 at *
    generalize M.length = x2 at *
    generalize ks.length = x3 at *
    generalize ms.length = x4 at *
    as_aux_lemma =>
    go_enter Tryz.func63, Tryz.ntmps63
    go_wp2_with fail
    go_ret
    exact ⟨by rw [HN.out] <;> rfl, HB.out⟩
  have hn := Classical.not_not.1 hn
  subst hn
  by_cases hss : s ≠ s'
  · have HN : Hid (q = false) := HNO.out (fun h => hss (congrArg VT.str h))
    have t0 : (s.toList == s'.toList) = false := by rw [Bool.eq_false_iff]; exact fun h => hss (bytes_beq.1 h)
    have t1 : (!s.toList == s'.toList) = true := by rw [t0]; rfl
    clear HNO HYES hss HL HM HKS HMS HMW IH HG
    generalize L.length = x1 at *
    generalize M.length = x2 at *
    generalize ks.length = x3 at *
    generalize ms.length = x4 at *
    as_aux_lemma =>
    go_enter Tryz.func63, Tryz.ntmps63
    go_wp2_with fail
    go_ret
    exact ⟨by rw [HN.out] <;> rfl, HB.out⟩
  have hss := Classical.not_not.1 hss
  subst hss
  have ts : (!s.toList == s.toList) = false := by simp
  by_cases hll : M.length ≠ L.length
  · have HN : Hid (q = false) := HNO.out (fun h => hll (congrArg (fun t => t.list.length) h).symm)
    have t1 : ((L.length : Int) == (M.length : Int)) = false := by rw [beq_eq_false_iff_ne]; omega
    have t1b : ((L.length : Int) != (M.length : Int)) = true := by simp [bne, t1]
    clear HNO HYES hll HL HM HKS HMS HMW IH HG
    generalize L.length = x1 at *
    generalize M.length = x2 at *
    generalize ks.length = x3 at *
    generalize ms.length = x4 at *
    as_aux_lemma =>
    go_enter Tryz.func63, Tryz.ntmps63
    go_wp2_with fail
    go_ret
    exact ⟨by rw [HN.out] <;> rfl, HB.out⟩
  have hll := Classical.not_not.1 hll
  rw [hll] at f4 HM HG
  by_cases hkk : ms.length ≠ ks.length
  · have HN : Hid (q = false) := HNO.out (fun h => hkk (congrArg (fun t => t.keys.length) h).symm)
    have t1 : ((ks.length : Int) == (ms.length : Int)) = false := by rw [beq_eq_false_iff_ne]; omega
    have t1b : ((ks.length : Int) != (ms.length : Int)) = true := by simp [bne, t1]
    clear HNO HYES hkk hll HL HM HKS HMS HMW IH HG
    generalize L.length = x1 at *
    generalize ks.length = x3 at *
    generalize ms.length = x4 at *
    as_aux_lemma =>
    go_enter Tryz.func63, Tryz.ntmps63
    go_wp2_with fail
    go_ret
    exact ⟨by rw [HN.out] <;> rfl, HB.out⟩
  have hkk := Classical.not_not.1 hkk
  rw [hkk] at f5 HMS HG
  have HKK := Lib.hid hkk
  have HLL := Lib.hid hll
  clear hkk hll
  go_enter Tryz.func63, Tryz.ntmps63
  go_upto_region 3 with fail
  clear g0 g1 g2 g3 g4 g5 f0 f1 f2 f3 f4 f5 hW1 hW2 hs1
  go_wp2_with fail
  go_loopg [5] ks.length (SmK ks ms W2)
  case atStart => exact ⟨0, rfl, Nat.zero_le _, rfl, rfl, Below.refl _ _⟩
  case round =>
    obtain ⟨i, rfl, hi, rfl, htk, hbel⟩ := hrel
    have HTK := Lib.hid htk
    have HB3 := Lib.hid hbel
    obtain ⟨g4, f4, g5, f5⟩ := HG.out wr hbel
    clear htk hbel
    by_cases hlt : i < ks.length
    · have hlm : i < ms.length := by rw [HKK.out]; exact hlt
      have hii : (i : Int) < (ks.length : Int) := by omega
      obtain ⟨b1, o1, rfl, _, hc1⟩ := (HKS.out.below HB3.out).at_ hlt
      rw [getD_at hlt] at hc1
      obtain ⟨b2, o2, rfl, _, hc2⟩ := (HMS.out.below HB3.out).at_ hlm
      rw [getD_at hlm] at hc2
      have HTS : Hid (ks[i] = ms[i] → ks.take (i + 1) = ms.take (i + 1)) := fun h => take_succ_eq hlt hlm HTK.out h
      have HTN : Hid (ks[i] ≠ ms[i] → q = false) := fun h => HNO.out (fun hh => ne_at hlt hlm h (congrArg VT.keys hh))
      generalize ks[i] = x at *
      generalize ms[i] = y at *
      clear HNO HYES IH HMW HL HM HTK hlm
      by_cases hxy : x = y
      · subst hxy
        have HN := Lib.hid (HTS.out rfl)
        have ts2 : (!x.toList == x.toList) = false := by simp
        clear HTS HTN
        as_aux_lemma =>
        go_upto_region 6 with fail
        go_quiet (fail)
        rename_i nq
        have HB5 : Hid (Below W2.heap.size W2 (wr.drewN nq)) := ⟨HB3.out.os, HB3.out.tape, HB3.out.output, HB3.out.size, HB3.out.block⟩
        go_wp2_with fail
        go_roundg (ks.length - (i + 1))
        case measure => omega
        case rel => exact ⟨i + 1, by go_num, by omega, rfl, HN.out, HB5.out⟩
      · have HN : Hid (q = false) := HTN.out hxy
        have t0 : (x.toList == y.toList) = false := by rw [Bool.eq_false_iff]; exact fun h => hxy (bytes_beq.1 h)
        have t1 : (!x.toList == y.toList) = true := by rw [t0]; rfl
        clear HTS HTN hxy
        as_aux_lemma =>
        go_upto_region 6 with fail
        go_quiet (fail)
        rename_i nq
        have HB5 : Hid (Below W2.heap.size W2 (wr.drewN nq)) := ⟨HB3.out.os, HB3.out.tape, HB3.out.output, HB3.out.size, HB3.out.block⟩
        go_wp2_with fail
        go_ret
        exact ⟨by rw [HN.out] <;> rfl, HB.out.trans (HB5.out.mono HB.out.size)⟩
    · have hii : ¬ (i : Int) < (ks.length : Int) := by omega
      have he : i = ks.length := by omega
      have HKE : Hid (ks = ms) := take_len_eq HKK.out.symm (by have := HTK.out; rw [he] at this; exact this)
      clear he HTK hlt
      go_wp2_with fail
      clear g4 f4 g5 f5 HKS HMS
      go_loopg [6] L.length (SmL L M W2)
      case atStart => exact ⟨0, rfl, Nat.zero_le _, rfl, rfl, HB3.out⟩
      case round =>
        obtain ⟨j, rfl, hj, rfl, htk, hbel⟩ := hrel
        have HTK := Lib.hid htk
        have HB4 := Lib.hid hbel
        obtain ⟨g4, f4, g5, f5⟩ := HG.out _ hbel
        clear htk hbel
        by_cases hlt : j < L.length
        · have hlm : j < M.length := by rw [HLL.out]; exact hlt
          have hjj : (j : Int) < (L.length : Int) := by omega
          obtain ⟨b1, o1, ce, rfl, hb1, hce, hvc⟩ := (HL.out.below HB4.out).at hlt
          obtain ⟨k1, c1, n1, s1, lo1, ln1, lc1, ko1, kn1, kc1, rfl⟩ := vcell_slices0 hvc
          have HVC := Lib.hid hvc
          have e0 := hce 0 _ rfl
          have e1 := hce 1 _ rfl
          have e2 := hce 2 _ rfl
          have e3 := hce 3 _ rfl
          have e4 := hce 4 _ rfl
          have e5 := hce 5 _ rfl
          rw [Nat.add_zero] at e0
          clear hce hvc
          obtain ⟨b2, o2, cf, rfl, hb2, hcf, hvd⟩ := (HM.out.below HB4.out).at hlm
          obtain ⟨k2, c2, n2, s2, lo2, ln2, lc2, ko2, kn2, kc2, rfl⟩ := vcell_slices0 hvd
          have HVD := Lib.hid hvd
          have d0 := hcf 0 _ rfl
          have d1 := hcf 1 _ rfl
          have d2 := hcf 2 _ rfl
          have d3 := hcf 3 _ rfl
          have d4 := hcf 4 _ rfl
          have d5 := hcf 5 _ rfl
          rw [Nat.add_zero] at d0
          clear hcf hvd
          have HTS : Hid (L[j] = M[j] → L.take (j + 1) = M.take (j + 1)) := fun h => take_succ_eq hlt hlm HTK.out h
          have HTN : Hid (L[j] ≠ M[j] → q = false) := fun h => HNO.out (fun hh => ne_at hlt hlm h (congrArg VT.list hh))
          have CC := Lib.hid (IH.out _ (List.getElem_mem hlt) _ (HMW.out _ (List.getElem_mem hlm)))
          unfold SameCalls at CC
          have HSV := Lib.hid (sameV_iff L[j] M[j])
          have HA : Hid (Below wr.heap.size wr wr.drew) := (Below.refl _ wr).drew
          generalize L[j] = x at *
          generalize M[j] = y at *
          clear HNO HYES IH HMW HL HM HTK hlm HKE
          as_aux_lemma =>
          go_upto_region 11 with fail
          go_still_tail 10, (by kernel_rfl)
          change wpList _ _ _ _ _ (World.drew _)
          go_wp2_with fail
          refine (CC.out _ _ _ (VCell.below HA.out _ _ HVC.out) (VCell.below HA.out _ _ HVD.out)).mono ?_
          rintro e w5 ⟨rfl, hu⟩
          have HB5 := Lib.hid (HB4.out.trans ((HA.out.trans (hu.mono HA.out.size)).mono HB4.out.size))
          clear hu CC HVC HVD e0 e1 e2 e3 e4 e5 d0 d1 d2 d3 d4 d5 g4 f4 g5 f5
          cases hv : sameV x y
          · have HN : Hid (q = false) := HTN.out (fun h => by rw [HSV.out.2 h] at hv; cases hv)
            clear hv HTS HTN HSV
            as_aux_lemma =>
            go_wp2_with fail
            go_ret
            exact ⟨by rw [HN.out] <;> rfl, HB.out.trans (HB5.out.mono HB.out.size)⟩
          · have HN := Lib.hid (HTS.out (HSV.out.1 hv))
            clear hv HTS HTN HSV
            as_aux_lemma =>
            go_wp2_with fail
            go_roundg (L.length - (j + 1))
            case measure => omega
            case rel => exact ⟨j + 1, by go_num, by omega, rfl, HN.out, HB5.out⟩
        · have hjj : ¬ (j : Int) < (L.length : Int) := by omega
          have he : j = L.length := by omega
          have HLE : Hid (L = M) := take_len_eq HLL.out.symm (by have := HTK.out; rw [he] at this; exact this)
          have HN : Hid (q = true) := HYES.out (by rw [HLE.out, HKE.out])
          clear he HTK hlt
          go_wp2_with fail
          go_ret
          exact ⟨by rw [HN.out] <;> rfl, HB.out.trans (HB4.out.mono HB.out.size)⟩
theorem same_all : ∀ (m : Nat) (t : VT), SizeOf.sizeOf t ≤ m → t.wf → SameCalls t
  | 0, t, hm, _ => by
    cases t
    simp only [VT.mk.sizeOf_spec] at hm
    omega
  | m + 1, .mk k b n s L ks, hm, hwf =>
    same_it k b n s L ks hwf fun t ht => same_all m t (by have := vt_lt (k := k) (b := b) (n := n) (s := s) (ks := ks) ht; omega) ((VT.wf_parts hwf).2.2.2.2.2.2 t ht)
/-- the reference's Same of any two values -/
theorem same_any (x y : VT) (hx : x.wf) (hy : y.wf) (v u : Value) (W : World) (h1 : VAt W v x) (h2 : VAt W u y) : Calls Tryz.prog 63 #[v, u] W fun e w' => e = .returned (.bool (sameV x y)) ∧ Below W.heap.size W w' := by
  obtain ⟨cs, rfl, hc⟩ := h1
  obtain ⟨cs', rfl, hc'⟩ := h2
  exact same_all _ x (Nat.le_refl _) hx y hy cs cs' W hc hc'
end Go.Proofs.YtomecnncighkgaaGreatDoor
