/- The walk over the reference's check, lists. -/
import Derived.Test.YtomecnncighkgaaGreatDoorVc3m
import Derived.Test.YtomecnncighkgaaGreatDoorVa2
namespace Go.Proofs.YtomecnncighkgaaGreatDoor
open Go.RowKit

set_option maxRecDepth 100000 in
set_option maxHeartbeats 12800000 in
theorem chk_4 (lv : Nat) (hlv : lv ≤ 17) (b : Bool) (n : Int) (s : ByteArray) (LL : List VT) (lo : Option Addr) (lc : Nat) (ko : Option Addr) (kc : Nat) (ks : List ByteArray) (hsz : ∀ x ∈ ks, x.size ≤ 9223372036854775807) (w : World) (h : StrsAt w (.slice ko ks.length kc) ks) (hL : VList w LL (.slice lo LL.length lc)) (ih : ∀ t ∈ LL, ChkCalls t) :
    Calls Tryz.prog 101 #[.agg #[.int .i64 4, .bool b, .int .i64 n, .string s, .slice lo LL.length lc, .slice ko ks.length kc], .int .i64 (lv : Nat)] w fun e w' => e = .returned (.int .i64 (chkG lv 4 b n s LL ks : Nat)) ∧ Below w.heap.size w w' := by
  have H := Lib.hid h
  have HL := Lib.hid hL
  have IH := Lib.hid ih
  have HSZ := Lib.hid hsz
  clear h hsz hL ih
  go_enter Tryz.func101, Tryz.ntmps101
  have HKI : Hid (0 ≤ (4 : Int) ∧ (4 : Int) ≤ 5) := by unfold Hid; omega
  by_cases h1 : 16 < lv
  · have t1 : (16 : Int) < (lv : Int) := by omega
    have HA := fun o => Lib.hid ((Below.refl w.heap.size w).alloc (Nat.le_refl _) o)
    have HG : Hid (nodeG lv 4 b n s LL.length ks = 13) := by
      unfold Hid nodeG
      rw [if_pos h1]
    have HV := Lib.hid (chk_ne HG.out (by decide))
    clear HG
    as_aux_lemma =>
    go_wp2_with fail
    go_ret
    exact ⟨by rw [HV.out]; rfl, (HA _).out⟩
  have t1 : decide ((16 : Int) < (lv : Int)) = false := decide_eq_false (by omega)
  have UN := fun W => Lib.hid (plain_any 4 b n s lo LL.length lc ko ks.length kc W)
  have HA := fun o => Lib.hid ((Below.refl w.heap.size w).alloc (Nat.le_refl _) o)
  have HZ := fun o => Lib.hid (alloc_lt w o)
  by_cases hp : plainG 4 b n s LL.length ks.length = false
  · rw [hp] at UN
    have HG : Hid (nodeG lv 4 b n s LL.length ks = 1) := by
      unfold Hid nodeG
      rw [if_neg h1]
      rw [if_pos (Or.inr (Or.inr hp))]
    have HV := Lib.hid (chk_ne HG.out (by decide))
    clear HG
    clear hp
    as_aux_lemma =>
    go_wp2_with fail
    refine (UN _).out.mono ?_
    rintro e w1 ⟨rfl, hb⟩
    have HB1 := Lib.hid ((HA _).out.trans (hb.mono (HA _).out.size))
    clear hb
    go_wp2_with fail
    go_ret
    exact ⟨by rw [HV.out]; rfl, HB1.out⟩
  have hpt : plainG 4 b n s LL.length ks.length = true := by simpa using hp
  rw [hpt] at UN
  have HN : Hid (nodeG lv 4 b n s LL.length ks = nodeH lv 4 n s LL.length ks) := by
    have := HKI.out
    unfold Hid nodeG nodeH
    rw [if_neg h1]
    rw [if_neg (fun h => h.elim (by omega) (fun h => h.elim (by omega) hp))]
  clear hp hpt
  go_wp2_with fail
  refine (UN _).out.mono ?_
  rintro e w1 ⟨rfl, hb⟩
  have HB1 := Lib.hid ((HA _).out.trans (hb.mono (HA _).out.size))
  have HZ1 : Hid (w.heap.size < w1.heap.size) := Nat.lt_of_lt_of_le (HZ _).out hb.size
  have c0 : w1.cell? ⟨w.heap.size, 0, none⟩ = some (.int .i64 4) := (hb.cell (p := ⟨w.heap.size, 0, none⟩) (HZ _).out).trans (cell_of_blk (hp_new rfl) 0)
  have c1 : w1.cell? ⟨w.heap.size, 1, none⟩ = some (.bool b) := (hb.cell (p := ⟨w.heap.size, 1, none⟩) (HZ _).out).trans (cell_of_blk (hp_new rfl) 1)
  have c2 : w1.cell? ⟨w.heap.size, 2, none⟩ = some (.int .i64 n) := (hb.cell (p := ⟨w.heap.size, 2, none⟩) (HZ _).out).trans (cell_of_blk (hp_new rfl) 2)
  have c3 : w1.cell? ⟨w.heap.size, 3, none⟩ = some (.string s) := (hb.cell (p := ⟨w.heap.size, 3, none⟩) (HZ _).out).trans (cell_of_blk (hp_new rfl) 3)
  have c4 : w1.cell? ⟨w.heap.size, 4, none⟩ = some (.slice lo LL.length lc) := (hb.cell (p := ⟨w.heap.size, 4, none⟩) (HZ _).out).trans (cell_of_blk (hp_new rfl) 4)
  have c5 : w1.cell? ⟨w.heap.size, 5, none⟩ = some (.slice ko ks.length kc) := (hb.cell (p := ⟨w.heap.size, 5, none⟩) (HZ _).out).trans (cell_of_blk (hp_new rfl) 5)
  have HC1 := Lib.hid c4
  have hbk : w1.heap[w.heap.size]? = some (.cells #[.int .i64 4, .bool b, .int .i64 n, .string s, .slice lo LL.length lc, .slice ko ks.length kc] 46) := (hb.block _ (HZ _).out).trans (hp_new rfl)
  have LV : (loadVar 46 ⟨w.heap.size, 0, none⟩).run Tryz.prog w1 = .ok (.agg #[.int .i64 4, .bool b, .int .i64 n, .string s, .slice lo LL.length lc, .slice ko ks.length kc]) w1 := run_loadVar_row w1 w.heap.size _ _ _ _ _ hbk Tryz.underlying46 rfl (by kernel_rfl)
  clear hb UN HA HZ hbk
  as_aux_lemma =>
  by_cases na : n < -9007199254740992
  · have tna : n < -9007199254740992 := by omega
    have HG : Hid (nodeG lv 4 b n s LL.length ks = 2) := by
      rw [Hid, HN.out]
      unfold nodeH
      rw [if_pos (Or.inl na)]
    have HV := Lib.hid (chk_ne HG.out (by decide))
    clear HG
    as_aux_lemma =>
    go_wp2_with fail
    go_ret
    exact ⟨by rw [HV.out]; rfl, HB1.out⟩
  have tna : decide (n < -9007199254740992) = false := decide_eq_false (by omega)
  by_cases nb : 9007199254740992 < n
  · have tnb : (9007199254740992 : Int) < n := by omega
    have HG : Hid (nodeG lv 4 b n s LL.length ks = 2) := by
      rw [Hid, HN.out]
      unfold nodeH
      rw [if_pos (Or.inr nb)]
    have HV := Lib.hid (chk_ne HG.out (by decide))
    clear HG
    as_aux_lemma =>
    go_wp2_with fail
    go_ret
    exact ⟨by rw [HV.out]; rfl, HB1.out⟩
  have tnb : decide ((9007199254740992 : Int) < n) = false := decide_eq_false (by omega)
  by_cases sa : 4096 < s.size
  · have tsa : (4096 : Int) < (s.size : Int) := by omega
    have HG : Hid (nodeG lv 4 b n s LL.length ks = 3) := by
      rw [Hid, HN.out]
      unfold nodeH
      rw [if_neg (fun h => h.elim na nb)]
      rw [if_pos (Or.inl sa)]
    have HV := Lib.hid (chk_ne HG.out (by decide))
    clear HG
    as_aux_lemma =>
    go_wp2_with fail
    go_ret
    exact ⟨by rw [HV.out]; rfl, HB1.out⟩
  have tsa : decide ((4096 : Int) < (s.size : Int)) = false := decide_eq_false (by omega)
  by_cases sb : 1024 < LL.length
  · have tsb : (1024 : Int) < (LL.length : Int) := by omega
    have HG : Hid (nodeG lv 4 b n s LL.length ks = 3) := by
      rw [Hid, HN.out]
      unfold nodeH
      rw [if_neg (fun h => h.elim na nb)]
      rw [if_pos (Or.inr (Or.inl sb))]
    have HV := Lib.hid (chk_ne HG.out (by decide))
    clear HG
    as_aux_lemma =>
    go_wp2_with fail
    go_ret
    exact ⟨by rw [HV.out]; rfl, HB1.out⟩
  have tsb : decide ((1024 : Int) < (LL.length : Int)) = false := decide_eq_false (by omega)
  by_cases sc : 1024 < ks.length
  · have tsc : (1024 : Int) < (ks.length : Int) := by omega
    have HG : Hid (nodeG lv 4 b n s LL.length ks = 3) := by
      rw [Hid, HN.out]
      unfold nodeH
      rw [if_neg (fun h => h.elim na nb)]
      rw [if_pos (Or.inr (Or.inr sc))]
    have HV := Lib.hid (chk_ne HG.out (by decide))
    clear HG
    as_aux_lemma =>
    go_wp2_with fail
    go_ret
    exact ⟨by rw [HV.out]; rfl, HB1.out⟩
  have tsc : decide ((1024 : Int) < (ks.length : Int)) = false := decide_eq_false (by omega)
  by_cases e1 : LL.length = 0
  · have u1 : ((LL.length : Int) == 0) = true := by rw [beq_iff_eq]; omega
    have u1b : (LL.length == 0) = true := by rw [beq_iff_eq]; omega
    by_cases e2 : lv = 16
    · have u2 : ((lv : Int) == 16) = true := by rw [beq_iff_eq]; omega
      have u2b : (lv == 16) = true := by rw [beq_iff_eq]; omega
      have HG : Hid (nodeG lv 4 b n s LL.length ks = 13) := by
        rw [Hid, HN.out]
        unfold nodeH
        rw [if_neg (fun h => h.elim na nb)]
        rw [if_neg (fun h => h.elim sa (fun h => h.elim sb sc))]
        rw [if_neg (fun h => absurd h.1 (by decide))]
        rw [if_pos ⟨Or.inl rfl, e1, e2⟩]
      have HV := Lib.hid (chk_ne HG.out (by decide))
      clear HG
      have HE0 := Lib.hid e1
      clear e1 e2
      as_aux_lemma =>
      go_wp2_with fail
      go_ret
      exact ⟨by rw [HV.out]; rfl, HB1.out⟩
    · have u2 : ((lv : Int) == 16) = false := by rw [beq_eq_false_iff_ne]; omega
      have u2b : (lv == 16) = false := by rw [beq_eq_false_iff_ne]; exact e2
      have HG : Hid (nodeG lv 4 b n s LL.length ks = 0) := by
        rw [Hid, HN.out]
        unfold nodeH
        rw [if_neg (fun h => h.elim na nb)]
        rw [if_neg (fun h => h.elim sa (fun h => h.elim sb sc))]
        rw [if_neg (fun h => absurd h.1 (by decide))]
        rw [if_neg (fun h => e2 h.2.2)]
      have HV := Lib.hid (chk_zero HG.out)
      clear HG
      have HE0 := Lib.hid e1
      clear e1 e2
      as_aux_lemma =>
      go_wp2_with fail
      clear u1 u1b u2 u2b
      go_loopg [5] LL.length (ChkRel w lv LL (.slice lo LL.length lc))
      case atStart => exact ⟨0, rfl, Nat.zero_le _, rfl, rfl, HB1.out, HC1.out, HZ1.out⟩
      case round =>
        obtain ⟨i, rfl, hi, rfl, hall, hbel, hk4, hz⟩ := hrel
        have HALL := Lib.hid hall
        have HBW := Lib.hid hbel
        clear hall hbel
        have HE1 := HE0.out
        have hii : ¬ (i : Int) < (LL.length : Int) := by omega
        have HF : Hid (checkL (lv + 1) LL = 0) := by
          have := HALL.out
          rwa [List.take_of_length_le (by omega)] at this
        clear HE1
        as_aux_lemma =>
        go_wp2_with fail
        go_ret
        exact ⟨by rw [HV.out, HF.out]; rfl, HBW.out⟩
  · have u1 : ((LL.length : Int) == 0) = false := by rw [beq_eq_false_iff_ne]; omega
    have u1b : (LL.length == 0) = false := by rw [beq_eq_false_iff_ne]; exact e1
    have HG : Hid (nodeG lv 4 b n s LL.length ks = 0) := by
      rw [Hid, HN.out]
      unfold nodeH
      rw [if_neg (fun h => h.elim na nb)]
      rw [if_neg (fun h => h.elim sa (fun h => h.elim sb sc))]
      rw [if_neg (fun h => absurd h.1 (by decide))]
      rw [if_neg (fun h => e1 h.2.1)]
    have HV := Lib.hid (chk_zero HG.out)
    clear HG
    clear e1
    as_aux_lemma =>
    go_wp2_with fail
    clear u1 u1b
    go_loopg [5] LL.length (ChkRel w lv LL (.slice lo LL.length lc))
    case atStart => exact ⟨0, rfl, Nat.zero_le _, rfl, rfl, HB1.out, HC1.out, HZ1.out⟩
    case round =>
      obtain ⟨i, rfl, hi, rfl, hall, hbel, hk4, hz⟩ := hrel
      have HALL := Lib.hid hall
      have HBW := Lib.hid hbel
      have HK4 := Lib.hid hk4
      clear hall hbel
      by_cases hlt : i < LL.length
      · obtain ⟨bl, off, cs, rfl, hbl, hce, hvc⟩ := (HL.out.below HBW.out).at hlt
        have CH := Lib.hid (IH.out _ (List.getElem_mem hlt) (lv + 1) (by omega) cs wr hvc)
        have HST := Lib.hid (fun h => chkL_step (lv := lv + 1) hlt HALL.out h)
        have HSP := Lib.hid (fun h => chkL_stop (lv := lv + 1) hlt HALL.out h)
        have hii : (i : Int) < (LL.length : Int) := by omega
        have q1 : IntKind.i64.wrap ((lv : Int) + 1) = (lv : Int) + 1 := IntWalk.i64_in _ (by omega)
        have q2 : (((lv + 1 : Nat) : Int)) = (lv : Int) + 1 := by omega
        rw [q2] at CH
        clear q2
        obtain ⟨k1, b1, n1, s1, v4, v5, rfl⟩ := vcell_six hvc
        have e0 := hce 0 _ rfl
        have e1 := hce 1 _ rfl
        have e2 := hce 2 _ rfl
        have e3 := hce 3 _ rfl
        have e4 := hce 4 _ rfl
        have e5 := hce 5 _ rfl
        rw [Nat.add_zero] at e0
        clear hce hvc
        generalize checkF (lv + 1) LL[i] = q at *
        as_aux_lemma =>
        go_wp2_with fail
        refine CH.out.mono ?_
        rintro e w5 ⟨rfl, hb5⟩
        have HB5 := Lib.hid (HBW.out.trans (hb5.mono HBW.out.size))
        have HK5 : Hid (w5.cell? ⟨w.heap.size, 4, none⟩ = some (.slice (some ⟨bl, off, none⟩) LL.length lc)) := (hb5.cell (p := ⟨w.heap.size, 4, none⟩) hz).trans HK4.out
        have hz5 : w.heap.size < w5.heap.size := Nat.lt_of_lt_of_le hz hb5.size
        clear hb5
        by_cases hq : q = 0
        · have HF := Lib.hid (HST.out hq)
          have t1 : ((q : Int) != 0) = false := by rw [hq]; rfl
          have t1b : ((q : Int) == 0) = true := by rw [hq]; rfl
          have t1c : (q == 0) = true := by rw [hq]; rfl
          clear HST HSP hq
          as_aux_lemma =>
          go_wp2_with fail
          go_roundg (LL.length - (i + 1))
          case measure => omega
          case rel => exact ⟨i + 1, by go_num, by omega, rfl, HF.out, HB5.out, HK5.out, hz5⟩
        · have HF := Lib.hid (HSP.out hq)
          have t1b : ((q : Int) == 0) = false := by rw [beq_eq_false_iff_ne]; omega
          have t1 : ((q : Int) != 0) = true := by simp [bne, t1b]
          have t1c : (q == 0) = false := by rw [beq_eq_false_iff_ne]; exact hq
          clear HST HSP hq
          as_aux_lemma =>
          go_wp2_with fail
          go_ret
          exact ⟨by rw [HV.out, HF.out]; rfl, HB5.out⟩
      · have hii : ¬ (i : Int) < (LL.length : Int) := by omega
        have HF : Hid (checkL (lv + 1) LL = 0) := by
          have := HALL.out
          rwa [List.take_of_length_le (by omega)] at this
        as_aux_lemma =>
        go_wp2_with fail
        go_ret
        exact ⟨by rw [HV.out, HF.out]; rfl, HBW.out⟩
end Go.Proofs.YtomecnncighkgaaGreatDoor
/- The walk over the reference's check, maps. -/
namespace Go.Proofs.YtomecnncighkgaaGreatDoor
open Go.RowKit

set_option maxRecDepth 100000 in
set_option maxHeartbeats 12800000 in
theorem chk_5 (lv : Nat) (hlv : lv ≤ 17) (b : Bool) (n : Int) (s : ByteArray) (LL : List VT) (lo : Option Addr) (lc : Nat) (ko : Option Addr) (kc : Nat) (ks : List ByteArray) (hsz : ∀ x ∈ ks, x.size ≤ 9223372036854775807) (w : World) (h : StrsAt w (.slice ko ks.length kc) ks) (hL : VList w LL (.slice lo LL.length lc)) (ih : ∀ t ∈ LL, ChkCalls t) :
    Calls Tryz.prog 101 #[.agg #[.int .i64 5, .bool b, .int .i64 n, .string s, .slice lo LL.length lc, .slice ko ks.length kc], .int .i64 (lv : Nat)] w fun e w' => e = .returned (.int .i64 (chkG lv 5 b n s LL ks : Nat)) ∧ Below w.heap.size w w' := by
  have H := Lib.hid h
  have HL := Lib.hid hL
  have IH := Lib.hid ih
  have HSZ := Lib.hid hsz
  clear h hsz hL ih
  go_enter Tryz.func101, Tryz.ntmps101
  have HKI : Hid (0 ≤ (5 : Int) ∧ (5 : Int) ≤ 5) := by unfold Hid; omega
  by_cases h1 : 16 < lv
  · have t1 : (16 : Int) < (lv : Int) := by omega
    have HA := fun o => Lib.hid ((Below.refl w.heap.size w).alloc (Nat.le_refl _) o)
    have HG : Hid (nodeG lv 5 b n s LL.length ks = 13) := by
      unfold Hid nodeG
      rw [if_pos h1]
    have HV := Lib.hid (chk_ne HG.out (by decide))
    clear HG
    as_aux_lemma =>
    go_wp2_with fail
    go_ret
    exact ⟨by rw [HV.out]; rfl, (HA _).out⟩
  have t1 : decide ((16 : Int) < (lv : Int)) = false := decide_eq_false (by omega)
  have UN := fun W => Lib.hid (plain_any 5 b n s lo LL.length lc ko ks.length kc W)
  have HA := fun o => Lib.hid ((Below.refl w.heap.size w).alloc (Nat.le_refl _) o)
  have HZ := fun o => Lib.hid (alloc_lt w o)
  by_cases hp : plainG 5 b n s LL.length ks.length = false
  · rw [hp] at UN
    have HG : Hid (nodeG lv 5 b n s LL.length ks = 1) := by
      unfold Hid nodeG
      rw [if_neg h1]
      rw [if_pos (Or.inr (Or.inr hp))]
    have HV := Lib.hid (chk_ne HG.out (by decide))
    clear HG
    clear hp
    as_aux_lemma =>
    go_wp2_with fail
    refine (UN _).out.mono ?_
    rintro e w1 ⟨rfl, hb⟩
    have HB1 := Lib.hid ((HA _).out.trans (hb.mono (HA _).out.size))
    clear hb
    go_wp2_with fail
    go_ret
    exact ⟨by rw [HV.out]; rfl, HB1.out⟩
  have hpt : plainG 5 b n s LL.length ks.length = true := by simpa using hp
  rw [hpt] at UN
  have HN : Hid (nodeG lv 5 b n s LL.length ks = nodeH lv 5 n s LL.length ks) := by
    have := HKI.out
    unfold Hid nodeG nodeH
    rw [if_neg h1]
    rw [if_neg (fun h => h.elim (by omega) (fun h => h.elim (by omega) hp))]
  clear hp hpt
  go_wp2_with fail
  refine (UN _).out.mono ?_
  rintro e w1 ⟨rfl, hb⟩
  have HB1 := Lib.hid ((HA _).out.trans (hb.mono (HA _).out.size))
  have HZ1 : Hid (w.heap.size < w1.heap.size) := Nat.lt_of_lt_of_le (HZ _).out hb.size
  have c0 : w1.cell? ⟨w.heap.size, 0, none⟩ = some (.int .i64 5) := (hb.cell (p := ⟨w.heap.size, 0, none⟩) (HZ _).out).trans (cell_of_blk (hp_new rfl) 0)
  have c1 : w1.cell? ⟨w.heap.size, 1, none⟩ = some (.bool b) := (hb.cell (p := ⟨w.heap.size, 1, none⟩) (HZ _).out).trans (cell_of_blk (hp_new rfl) 1)
  have c2 : w1.cell? ⟨w.heap.size, 2, none⟩ = some (.int .i64 n) := (hb.cell (p := ⟨w.heap.size, 2, none⟩) (HZ _).out).trans (cell_of_blk (hp_new rfl) 2)
  have c3 : w1.cell? ⟨w.heap.size, 3, none⟩ = some (.string s) := (hb.cell (p := ⟨w.heap.size, 3, none⟩) (HZ _).out).trans (cell_of_blk (hp_new rfl) 3)
  have c4 : w1.cell? ⟨w.heap.size, 4, none⟩ = some (.slice lo LL.length lc) := (hb.cell (p := ⟨w.heap.size, 4, none⟩) (HZ _).out).trans (cell_of_blk (hp_new rfl) 4)
  have c5 : w1.cell? ⟨w.heap.size, 5, none⟩ = some (.slice ko ks.length kc) := (hb.cell (p := ⟨w.heap.size, 5, none⟩) (HZ _).out).trans (cell_of_blk (hp_new rfl) 5)
  have HC1 := Lib.hid c4
  have hbk : w1.heap[w.heap.size]? = some (.cells #[.int .i64 5, .bool b, .int .i64 n, .string s, .slice lo LL.length lc, .slice ko ks.length kc] 46) := (hb.block _ (HZ _).out).trans (hp_new rfl)
  have LV : (loadVar 46 ⟨w.heap.size, 0, none⟩).run Tryz.prog w1 = .ok (.agg #[.int .i64 5, .bool b, .int .i64 n, .string s, .slice lo LL.length lc, .slice ko ks.length kc]) w1 := run_loadVar_row w1 w.heap.size _ _ _ _ _ hbk Tryz.underlying46 rfl (by kernel_rfl)
  clear hb UN HA HZ hbk
  as_aux_lemma =>
  by_cases na : n < -9007199254740992
  · have tna : n < -9007199254740992 := by omega
    have HG : Hid (nodeG lv 5 b n s LL.length ks = 2) := by
      rw [Hid, HN.out]
      unfold nodeH
      rw [if_pos (Or.inl na)]
    have HV := Lib.hid (chk_ne HG.out (by decide))
    clear HG
    as_aux_lemma =>
    go_wp2_with fail
    go_ret
    exact ⟨by rw [HV.out]; rfl, HB1.out⟩
  have tna : decide (n < -9007199254740992) = false := decide_eq_false (by omega)
  by_cases nb : 9007199254740992 < n
  · have tnb : (9007199254740992 : Int) < n := by omega
    have HG : Hid (nodeG lv 5 b n s LL.length ks = 2) := by
      rw [Hid, HN.out]
      unfold nodeH
      rw [if_pos (Or.inr nb)]
    have HV := Lib.hid (chk_ne HG.out (by decide))
    clear HG
    as_aux_lemma =>
    go_wp2_with fail
    go_ret
    exact ⟨by rw [HV.out]; rfl, HB1.out⟩
  have tnb : decide ((9007199254740992 : Int) < n) = false := decide_eq_false (by omega)
  by_cases sa : 4096 < s.size
  · have tsa : (4096 : Int) < (s.size : Int) := by omega
    have HG : Hid (nodeG lv 5 b n s LL.length ks = 3) := by
      rw [Hid, HN.out]
      unfold nodeH
      rw [if_neg (fun h => h.elim na nb)]
      rw [if_pos (Or.inl sa)]
    have HV := Lib.hid (chk_ne HG.out (by decide))
    clear HG
    as_aux_lemma =>
    go_wp2_with fail
    go_ret
    exact ⟨by rw [HV.out]; rfl, HB1.out⟩
  have tsa : decide ((4096 : Int) < (s.size : Int)) = false := decide_eq_false (by omega)
  by_cases sb : 1024 < LL.length
  · have tsb : (1024 : Int) < (LL.length : Int) := by omega
    have HG : Hid (nodeG lv 5 b n s LL.length ks = 3) := by
      rw [Hid, HN.out]
      unfold nodeH
      rw [if_neg (fun h => h.elim na nb)]
      rw [if_pos (Or.inr (Or.inl sb))]
    have HV := Lib.hid (chk_ne HG.out (by decide))
    clear HG
    as_aux_lemma =>
    go_wp2_with fail
    go_ret
    exact ⟨by rw [HV.out]; rfl, HB1.out⟩
  have tsb : decide ((1024 : Int) < (LL.length : Int)) = false := decide_eq_false (by omega)
  by_cases sc : 1024 < ks.length
  · have tsc : (1024 : Int) < (ks.length : Int) := by omega
    have HG : Hid (nodeG lv 5 b n s LL.length ks = 3) := by
      rw [Hid, HN.out]
      unfold nodeH
      rw [if_neg (fun h => h.elim na nb)]
      rw [if_pos (Or.inr (Or.inr sc))]
    have HV := Lib.hid (chk_ne HG.out (by decide))
    clear HG
    as_aux_lemma =>
    go_wp2_with fail
    go_ret
    exact ⟨by rw [HV.out]; rfl, HB1.out⟩
  have tsc : decide ((1024 : Int) < (ks.length : Int)) = false := decide_eq_false (by omega)
  have KD := Lib.hid (rasc_any 5 b n s lo LL.length lc ko kc ks (by omega) HSZ.out w1 (H.out.below HB1.out))
  by_cases hk : (decide (ks.length = LL.length) && keysTo ks ks.length) = false
  · rw [hk] at KD
    have HG : Hid (nodeG lv 5 b n s LL.length ks = 1) := by
      rw [Hid, HN.out]
      unfold nodeH
      rw [if_neg (fun h => h.elim na nb)]
      rw [if_neg (fun h => h.elim sa (fun h => h.elim sb sc))]
      rw [if_pos ⟨rfl, hk⟩]
    have HV := Lib.hid (chk_ne HG.out (by decide))
    clear HG
    clear hk
    as_aux_lemma =>
    go_wp2_with fail
    refine KD.out.mono ?_
    rintro e w2 ⟨rfl, hb2⟩
    have HB2 := Lib.hid (HB1.out.trans (hb2.mono HB1.out.size))
    clear hb2
    go_wp2_with fail
    go_ret
    exact ⟨by rw [HV.out]; rfl, HB2.out⟩
  have hkt : (decide (ks.length = LL.length) && keysTo ks ks.length) = true := by simpa using hk
  rw [hkt] at KD
  by_cases e1 : LL.length = 0
  · have u1 : ((LL.length : Int) == 0) = true := by rw [beq_iff_eq]; omega
    have u1b : (LL.length == 0) = true := by rw [beq_iff_eq]; omega
    by_cases e2 : lv = 16
    · have u2 : ((lv : Int) == 16) = true := by rw [beq_iff_eq]; omega
      have u2b : (lv == 16) = true := by rw [beq_iff_eq]; omega
      have HG : Hid (nodeG lv 5 b n s LL.length ks = 13) := by
        rw [Hid, HN.out]
        unfold nodeH
        rw [if_neg (fun h => h.elim na nb)]
        rw [if_neg (fun h => h.elim sa (fun h => h.elim sb sc))]
        rw [if_neg (fun h => hk h.2)]
        rw [if_pos ⟨Or.inr rfl, e1, e2⟩]
      have HV := Lib.hid (chk_ne HG.out (by decide))
      clear HG
      clear hk hkt
      have HE0 := Lib.hid e1
      clear e1 e2
      as_aux_lemma =>
      go_wp2_with fail
      refine KD.out.mono ?_
      rintro e w2 ⟨rfl, hb2⟩
      have HB2 := Lib.hid (HB1.out.trans (hb2.mono HB1.out.size))
      have d0 : w2.cell? ⟨w.heap.size, 0, none⟩ = some (.int .i64 5) := (hb2.cell (p := ⟨w.heap.size, 0, none⟩) HZ1.out).trans c0
      have d4 : w2.cell? ⟨w.heap.size, 4, none⟩ = some (.slice lo LL.length lc) := (hb2.cell (p := ⟨w.heap.size, 4, none⟩) HZ1.out).trans c4
      have HZ2 : Hid (w.heap.size < w2.heap.size) := Nat.lt_of_lt_of_le HZ1.out hb2.size
      have HC2 := Lib.hid d4
      clear hb2 c0 c1 c2 c3 c4 c5 LV
      go_wp2_with fail
      go_ret
      exact ⟨by rw [HV.out]; rfl, HB2.out⟩
    · have u2 : ((lv : Int) == 16) = false := by rw [beq_eq_false_iff_ne]; omega
      have u2b : (lv == 16) = false := by rw [beq_eq_false_iff_ne]; exact e2
      have HG : Hid (nodeG lv 5 b n s LL.length ks = 0) := by
        rw [Hid, HN.out]
        unfold nodeH
        rw [if_neg (fun h => h.elim na nb)]
        rw [if_neg (fun h => h.elim sa (fun h => h.elim sb sc))]
        rw [if_neg (fun h => hk h.2)]
        rw [if_neg (fun h => e2 h.2.2)]
      have HV := Lib.hid (chk_zero HG.out)
      clear HG
      clear hk hkt
      have HE0 := Lib.hid e1
      clear e1 e2
      as_aux_lemma =>
      go_wp2_with fail
      refine KD.out.mono ?_
      rintro e w2 ⟨rfl, hb2⟩
      have HB2 := Lib.hid (HB1.out.trans (hb2.mono HB1.out.size))
      have d0 : w2.cell? ⟨w.heap.size, 0, none⟩ = some (.int .i64 5) := (hb2.cell (p := ⟨w.heap.size, 0, none⟩) HZ1.out).trans c0
      have d4 : w2.cell? ⟨w.heap.size, 4, none⟩ = some (.slice lo LL.length lc) := (hb2.cell (p := ⟨w.heap.size, 4, none⟩) HZ1.out).trans c4
      have HZ2 : Hid (w.heap.size < w2.heap.size) := Nat.lt_of_lt_of_le HZ1.out hb2.size
      have HC2 := Lib.hid d4
      clear hb2 c0 c1 c2 c3 c4 c5 LV
      go_wp2_with fail
      clear u1 u1b u2 u2b
      go_loopg [5] LL.length (ChkRel w lv LL (.slice lo LL.length lc))
      case atStart => exact ⟨0, rfl, Nat.zero_le _, rfl, rfl, HB2.out, HC2.out, HZ2.out⟩
      case round =>
        obtain ⟨i, rfl, hi, rfl, hall, hbel, hk4, hz⟩ := hrel
        have HALL := Lib.hid hall
        have HBW := Lib.hid hbel
        clear hall hbel
        have HE1 := HE0.out
        have hii : ¬ (i : Int) < (LL.length : Int) := by omega
        have HF : Hid (checkL (lv + 1) LL = 0) := by
          have := HALL.out
          rwa [List.take_of_length_le (by omega)] at this
        clear HE1
        as_aux_lemma =>
        go_wp2_with fail
        go_ret
        exact ⟨by rw [HV.out, HF.out]; rfl, HBW.out⟩
  · have u1 : ((LL.length : Int) == 0) = false := by rw [beq_eq_false_iff_ne]; omega
    have u1b : (LL.length == 0) = false := by rw [beq_eq_false_iff_ne]; exact e1
    have HG : Hid (nodeG lv 5 b n s LL.length ks = 0) := by
      rw [Hid, HN.out]
      unfold nodeH
      rw [if_neg (fun h => h.elim na nb)]
      rw [if_neg (fun h => h.elim sa (fun h => h.elim sb sc))]
      rw [if_neg (fun h => hk h.2)]
      rw [if_neg (fun h => e1 h.2.1)]
    have HV := Lib.hid (chk_zero HG.out)
    clear HG
    clear hk hkt
    clear e1
    as_aux_lemma =>
    go_wp2_with fail
    refine KD.out.mono ?_
    rintro e w2 ⟨rfl, hb2⟩
    have HB2 := Lib.hid (HB1.out.trans (hb2.mono HB1.out.size))
    have d0 : w2.cell? ⟨w.heap.size, 0, none⟩ = some (.int .i64 5) := (hb2.cell (p := ⟨w.heap.size, 0, none⟩) HZ1.out).trans c0
    have d4 : w2.cell? ⟨w.heap.size, 4, none⟩ = some (.slice lo LL.length lc) := (hb2.cell (p := ⟨w.heap.size, 4, none⟩) HZ1.out).trans c4
    have HZ2 : Hid (w.heap.size < w2.heap.size) := Nat.lt_of_lt_of_le HZ1.out hb2.size
    have HC2 := Lib.hid d4
    clear hb2 c0 c1 c2 c3 c4 c5 LV
    go_wp2_with fail
    clear u1 u1b
    go_loopg [5] LL.length (ChkRel w lv LL (.slice lo LL.length lc))
    case atStart => exact ⟨0, rfl, Nat.zero_le _, rfl, rfl, HB2.out, HC2.out, HZ2.out⟩
    case round =>
      obtain ⟨i, rfl, hi, rfl, hall, hbel, hk4, hz⟩ := hrel
      have HALL := Lib.hid hall
      have HBW := Lib.hid hbel
      have HK4 := Lib.hid hk4
      clear hall hbel
      by_cases hlt : i < LL.length
      · obtain ⟨bl, off, cs, rfl, hbl, hce, hvc⟩ := (HL.out.below HBW.out).at hlt
        have CH := Lib.hid (IH.out _ (List.getElem_mem hlt) (lv + 1) (by omega) cs wr hvc)
        have HST := Lib.hid (fun h => chkL_step (lv := lv + 1) hlt HALL.out h)
        have HSP := Lib.hid (fun h => chkL_stop (lv := lv + 1) hlt HALL.out h)
        have hii : (i : Int) < (LL.length : Int) := by omega
        have q1 : IntKind.i64.wrap ((lv : Int) + 1) = (lv : Int) + 1 := IntWalk.i64_in _ (by omega)
        have q2 : (((lv + 1 : Nat) : Int)) = (lv : Int) + 1 := by omega
        rw [q2] at CH
        clear q2
        obtain ⟨k1, b1, n1, s1, v4, v5, rfl⟩ := vcell_six hvc
        have e0 := hce 0 _ rfl
        have e1 := hce 1 _ rfl
        have e2 := hce 2 _ rfl
        have e3 := hce 3 _ rfl
        have e4 := hce 4 _ rfl
        have e5 := hce 5 _ rfl
        rw [Nat.add_zero] at e0
        clear hce hvc
        generalize checkF (lv + 1) LL[i] = q at *
        as_aux_lemma =>
        go_wp2_with fail
        refine CH.out.mono ?_
        rintro e w5 ⟨rfl, hb5⟩
        have HB5 := Lib.hid (HBW.out.trans (hb5.mono HBW.out.size))
        have HK5 : Hid (w5.cell? ⟨w.heap.size, 4, none⟩ = some (.slice (some ⟨bl, off, none⟩) LL.length lc)) := (hb5.cell (p := ⟨w.heap.size, 4, none⟩) hz).trans HK4.out
        have hz5 : w.heap.size < w5.heap.size := Nat.lt_of_lt_of_le hz hb5.size
        clear hb5
        by_cases hq : q = 0
        · have HF := Lib.hid (HST.out hq)
          have t1 : ((q : Int) != 0) = false := by rw [hq]; rfl
          have t1b : ((q : Int) == 0) = true := by rw [hq]; rfl
          have t1c : (q == 0) = true := by rw [hq]; rfl
          clear HST HSP hq
          as_aux_lemma =>
          go_wp2_with fail
          go_roundg (LL.length - (i + 1))
          case measure => omega
          case rel => exact ⟨i + 1, by go_num, by omega, rfl, HF.out, HB5.out, HK5.out, hz5⟩
        · have HF := Lib.hid (HSP.out hq)
          have t1b : ((q : Int) == 0) = false := by rw [beq_eq_false_iff_ne]; omega
          have t1 : ((q : Int) != 0) = true := by simp [bne, t1b]
          have t1c : (q == 0) = false := by rw [beq_eq_false_iff_ne]; exact hq
          clear HST HSP hq
          as_aux_lemma =>
          go_wp2_with fail
          go_ret
          exact ⟨by rw [HV.out, HF.out]; rfl, HB5.out⟩
      · have hii : ¬ (i : Int) < (LL.length : Int) := by omega
        have HF : Hid (checkL (lv + 1) LL = 0) := by
          have := HALL.out
          rwa [List.take_of_length_le (by omega)] at this
        as_aux_lemma =>
        go_wp2_with fail
        go_ret
        exact ⟨by rw [HV.out, HF.out]; rfl, HBW.out⟩
end Go.Proofs.YtomecnncighkgaaGreatDoor
/- The walk over the reference's check, the rest. -/
namespace Go.Proofs.YtomecnncighkgaaGreatDoor
open Go.RowKit

set_option maxRecDepth 100000 in
set_option maxHeartbeats 12800000 in
theorem chk_o (lv : Nat) (hlv : lv ≤ 17) (k : Int) (k4 : ¬ k = 4) (k5 : ¬ k = 5) (b : Bool) (n : Int) (s : ByteArray) (LL : List VT) (lo : Option Addr) (lc : Nat) (ko : Option Addr) (kc : Nat) (ks : List ByteArray) (hsz : ∀ x ∈ ks, x.size ≤ 9223372036854775807) (w : World) (h : StrsAt w (.slice ko ks.length kc) ks) (hL : VList w LL (.slice lo LL.length lc)) (ih : ∀ t ∈ LL, ChkCalls t) :
    Calls Tryz.prog 101 #[.agg #[.int .i64 k, .bool b, .int .i64 n, .string s, .slice lo LL.length lc, .slice ko ks.length kc], .int .i64 (lv : Nat)] w fun e w' => e = .returned (.int .i64 (chkG lv k b n s LL ks : Nat)) ∧ Below w.heap.size w w' := by
  have H := Lib.hid h
  have HL := Lib.hid hL
  have IH := Lib.hid ih
  have HSZ := Lib.hid hsz
  clear h hsz hL ih
  go_enter Tryz.func101, Tryz.ntmps101
  have q4 : (k == 4) = false := by rw [beq_eq_false_iff_ne]; exact k4
  have q5 : (k == 5) = false := by rw [beq_eq_false_iff_ne]; exact k5
  by_cases h1 : 16 < lv
  · have t1 : (16 : Int) < (lv : Int) := by omega
    have HA := fun o => Lib.hid ((Below.refl w.heap.size w).alloc (Nat.le_refl _) o)
    have HG : Hid (nodeG lv k b n s LL.length ks = 13) := by
      unfold Hid nodeG
      rw [if_pos h1]
    have HV := Lib.hid (chk_ne HG.out (by decide))
    clear HG
    as_aux_lemma =>
    go_wp2_with fail
    go_ret
    exact ⟨by rw [HV.out]; rfl, (HA _).out⟩
  have t1 : decide ((16 : Int) < (lv : Int)) = false := decide_eq_false (by omega)
  by_cases ka : k < 0
  · have HA := fun o => Lib.hid ((Below.refl w.heap.size w).alloc (Nat.le_refl _) o)
    have HG : Hid (nodeG lv k b n s LL.length ks = 1) := by
      unfold Hid nodeG
      rw [if_neg h1]
      rw [if_pos (Or.inl ka)]
    have HV := Lib.hid (chk_ne HG.out (by decide))
    clear HG
    as_aux_lemma =>
    go_wp2_with fail
    go_ret
    exact ⟨by rw [HV.out]; rfl, (HA _).out⟩
  by_cases kb : 5 < k
  · have HA := fun o => Lib.hid ((Below.refl w.heap.size w).alloc (Nat.le_refl _) o)
    have tka : decide (k < 0) = false := decide_eq_false ka
    have HG : Hid (nodeG lv k b n s LL.length ks = 1) := by
      unfold Hid nodeG
      rw [if_neg h1]
      rw [if_pos (Or.inr (Or.inl kb))]
    have HV := Lib.hid (chk_ne HG.out (by decide))
    clear HG
    as_aux_lemma =>
    go_wp2_with fail
    go_ret
    exact ⟨by rw [HV.out]; rfl, (HA _).out⟩
  have tka : decide (k < 0) = false := decide_eq_false ka
  have tkb : decide (5 < k) = false := decide_eq_false kb
  have tk4 : decide (4 ≤ k) = false := decide_eq_false (by omega)
  have HKI : Hid (0 ≤ k ∧ k ≤ 5) := ⟨by omega, by omega⟩
  have UN := fun W => Lib.hid (plain_any k b n s lo LL.length lc ko ks.length kc W)
  have HA := fun o => Lib.hid ((Below.refl w.heap.size w).alloc (Nat.le_refl _) o)
  have HZ := fun o => Lib.hid (alloc_lt w o)
  by_cases hp : plainG k b n s LL.length ks.length = false
  · rw [hp] at UN
    have HG : Hid (nodeG lv k b n s LL.length ks = 1) := by
      unfold Hid nodeG
      rw [if_neg h1]
      rw [if_pos (Or.inr (Or.inr hp))]
    have HV := Lib.hid (chk_ne HG.out (by decide))
    clear HG
    clear hp
    as_aux_lemma =>
    go_wp2_with fail
    refine (UN _).out.mono ?_
    rintro e w1 ⟨rfl, hb⟩
    have HB1 := Lib.hid ((HA _).out.trans (hb.mono (HA _).out.size))
    clear hb
    go_wp2_with fail
    go_ret
    exact ⟨by rw [HV.out]; rfl, HB1.out⟩
  have hpt : plainG k b n s LL.length ks.length = true := by simpa using hp
  rw [hpt] at UN
  have HE : Hid (LL = []) := by
    unfold plainG at hpt
    rw [decide_eq_false k4, decide_eq_false k5] at hpt
    simp at hpt
    exact hpt.1.2
  have HN : Hid (nodeG lv k b n s LL.length ks = nodeH lv k n s LL.length ks) := by
    have := HKI.out
    unfold Hid nodeG nodeH
    rw [if_neg h1]
    rw [if_neg (fun h => h.elim (by omega) (fun h => h.elim (by omega) hp))]
  clear hp hpt
  go_wp2_with fail
  refine (UN _).out.mono ?_
  rintro e w1 ⟨rfl, hb⟩
  have HB1 := Lib.hid ((HA _).out.trans (hb.mono (HA _).out.size))
  have HZ1 : Hid (w.heap.size < w1.heap.size) := Nat.lt_of_lt_of_le (HZ _).out hb.size
  have c0 : w1.cell? ⟨w.heap.size, 0, none⟩ = some (.int .i64 k) := (hb.cell (p := ⟨w.heap.size, 0, none⟩) (HZ _).out).trans (cell_of_blk (hp_new rfl) 0)
  have c1 : w1.cell? ⟨w.heap.size, 1, none⟩ = some (.bool b) := (hb.cell (p := ⟨w.heap.size, 1, none⟩) (HZ _).out).trans (cell_of_blk (hp_new rfl) 1)
  have c2 : w1.cell? ⟨w.heap.size, 2, none⟩ = some (.int .i64 n) := (hb.cell (p := ⟨w.heap.size, 2, none⟩) (HZ _).out).trans (cell_of_blk (hp_new rfl) 2)
  have c3 : w1.cell? ⟨w.heap.size, 3, none⟩ = some (.string s) := (hb.cell (p := ⟨w.heap.size, 3, none⟩) (HZ _).out).trans (cell_of_blk (hp_new rfl) 3)
  have c4 : w1.cell? ⟨w.heap.size, 4, none⟩ = some (.slice lo LL.length lc) := (hb.cell (p := ⟨w.heap.size, 4, none⟩) (HZ _).out).trans (cell_of_blk (hp_new rfl) 4)
  have c5 : w1.cell? ⟨w.heap.size, 5, none⟩ = some (.slice ko ks.length kc) := (hb.cell (p := ⟨w.heap.size, 5, none⟩) (HZ _).out).trans (cell_of_blk (hp_new rfl) 5)
  have HC1 := Lib.hid c4
  have hbk : w1.heap[w.heap.size]? = some (.cells #[.int .i64 k, .bool b, .int .i64 n, .string s, .slice lo LL.length lc, .slice ko ks.length kc] 46) := (hb.block _ (HZ _).out).trans (hp_new rfl)
  have LV : (loadVar 46 ⟨w.heap.size, 0, none⟩).run Tryz.prog w1 = .ok (.agg #[.int .i64 k, .bool b, .int .i64 n, .string s, .slice lo LL.length lc, .slice ko ks.length kc]) w1 := run_loadVar_row w1 w.heap.size _ _ _ _ _ hbk Tryz.underlying46 rfl (by kernel_rfl)
  clear hb UN HA HZ hbk
  as_aux_lemma =>
  by_cases na : n < -9007199254740992
  · have tna : n < -9007199254740992 := by omega
    have HG : Hid (nodeG lv k b n s LL.length ks = 2) := by
      rw [Hid, HN.out]
      unfold nodeH
      rw [if_pos (Or.inl na)]
    have HV := Lib.hid (chk_ne HG.out (by decide))
    clear HG
    as_aux_lemma =>
    go_wp2_with fail
    go_ret
    exact ⟨by rw [HV.out]; rfl, HB1.out⟩
  have tna : decide (n < -9007199254740992) = false := decide_eq_false (by omega)
  by_cases nb : 9007199254740992 < n
  · have tnb : (9007199254740992 : Int) < n := by omega
    have HG : Hid (nodeG lv k b n s LL.length ks = 2) := by
      rw [Hid, HN.out]
      unfold nodeH
      rw [if_pos (Or.inr nb)]
    have HV := Lib.hid (chk_ne HG.out (by decide))
    clear HG
    as_aux_lemma =>
    go_wp2_with fail
    go_ret
    exact ⟨by rw [HV.out]; rfl, HB1.out⟩
  have tnb : decide ((9007199254740992 : Int) < n) = false := decide_eq_false (by omega)
  by_cases sa : 4096 < s.size
  · have tsa : (4096 : Int) < (s.size : Int) := by omega
    have HG : Hid (nodeG lv k b n s LL.length ks = 3) := by
      rw [Hid, HN.out]
      unfold nodeH
      rw [if_neg (fun h => h.elim na nb)]
      rw [if_pos (Or.inl sa)]
    have HV := Lib.hid (chk_ne HG.out (by decide))
    clear HG
    as_aux_lemma =>
    go_wp2_with fail
    go_ret
    exact ⟨by rw [HV.out]; rfl, HB1.out⟩
  have tsa : decide ((4096 : Int) < (s.size : Int)) = false := decide_eq_false (by omega)
  by_cases sb : 1024 < LL.length
  · have tsb : (1024 : Int) < (LL.length : Int) := by omega
    have HG : Hid (nodeG lv k b n s LL.length ks = 3) := by
      rw [Hid, HN.out]
      unfold nodeH
      rw [if_neg (fun h => h.elim na nb)]
      rw [if_pos (Or.inr (Or.inl sb))]
    have HV := Lib.hid (chk_ne HG.out (by decide))
    clear HG
    as_aux_lemma =>
    go_wp2_with fail
    go_ret
    exact ⟨by rw [HV.out]; rfl, HB1.out⟩
  have tsb : decide ((1024 : Int) < (LL.length : Int)) = false := decide_eq_false (by omega)
  by_cases sc : 1024 < ks.length
  · have tsc : (1024 : Int) < (ks.length : Int) := by omega
    have HG : Hid (nodeG lv k b n s LL.length ks = 3) := by
      rw [Hid, HN.out]
      unfold nodeH
      rw [if_neg (fun h => h.elim na nb)]
      rw [if_pos (Or.inr (Or.inr sc))]
    have HV := Lib.hid (chk_ne HG.out (by decide))
    clear HG
    as_aux_lemma =>
    go_wp2_with fail
    go_ret
    exact ⟨by rw [HV.out]; rfl, HB1.out⟩
  have tsc : decide ((1024 : Int) < (ks.length : Int)) = false := decide_eq_false (by omega)
  have HG : Hid (nodeG lv k b n s LL.length ks = 0) := by
    rw [Hid, HN.out]
    unfold nodeH
    rw [if_neg (fun h => h.elim na nb)]
    rw [if_neg (fun h => h.elim sa (fun h => h.elim sb sc))]
    rw [if_neg (fun h => k5 h.1)]
    rw [if_neg (fun h => h.1.elim k4 k5)]
  have HV := Lib.hid (chk_zero HG.out)
  clear HG
  as_aux_lemma =>
  go_wp2_with fail
  go_loopg [5] LL.length (ChkRel w lv LL (.slice lo LL.length lc))
  case atStart => exact ⟨0, rfl, Nat.zero_le _, rfl, rfl, HB1.out, HC1.out, HZ1.out⟩
  case round =>
    obtain ⟨i, rfl, hi, rfl, hall, hbel, hk4, hz⟩ := hrel
    have HALL := Lib.hid hall
    have HBW := Lib.hid hbel
    have HK4 := Lib.hid hk4
    clear hall hbel
    by_cases hlt : i < LL.length
    · obtain ⟨bl, off, cs, rfl, hbl, hce, hvc⟩ := (HL.out.below HBW.out).at hlt
      have CH := Lib.hid (IH.out _ (List.getElem_mem hlt) (lv + 1) (by omega) cs wr hvc)
      have HST := Lib.hid (fun h => chkL_step (lv := lv + 1) hlt HALL.out h)
      have HSP := Lib.hid (fun h => chkL_stop (lv := lv + 1) hlt HALL.out h)
      have hii : (i : Int) < (LL.length : Int) := by omega
      have q1 : IntKind.i64.wrap ((lv : Int) + 1) = (lv : Int) + 1 := IntWalk.i64_in _ (by omega)
      have q2 : (((lv + 1 : Nat) : Int)) = (lv : Int) + 1 := by omega
      rw [q2] at CH
      clear q2
      obtain ⟨k1, b1, n1, s1, v4, v5, rfl⟩ := vcell_six hvc
      have e0 := hce 0 _ rfl
      have e1 := hce 1 _ rfl
      have e2 := hce 2 _ rfl
      have e3 := hce 3 _ rfl
      have e4 := hce 4 _ rfl
      have e5 := hce 5 _ rfl
      rw [Nat.add_zero] at e0
      clear hce hvc
      generalize checkF (lv + 1) LL[i] = q at *
      as_aux_lemma =>
      go_wp2_with fail
      refine CH.out.mono ?_
      rintro e w5 ⟨rfl, hb5⟩
      have HB5 := Lib.hid (HBW.out.trans (hb5.mono HBW.out.size))
      have HK5 : Hid (w5.cell? ⟨w.heap.size, 4, none⟩ = some (.slice (some ⟨bl, off, none⟩) LL.length lc)) := (hb5.cell (p := ⟨w.heap.size, 4, none⟩) hz).trans HK4.out
      have hz5 : w.heap.size < w5.heap.size := Nat.lt_of_lt_of_le hz hb5.size
      clear hb5
      by_cases hq : q = 0
      · have HF := Lib.hid (HST.out hq)
        have t1 : ((q : Int) != 0) = false := by rw [hq]; rfl
        have t1b : ((q : Int) == 0) = true := by rw [hq]; rfl
        have t1c : (q == 0) = true := by rw [hq]; rfl
        clear HST HSP hq
        as_aux_lemma =>
        go_wp2_with fail
        go_roundg (LL.length - (i + 1))
        case measure => omega
        case rel => exact ⟨i + 1, by go_num, by omega, rfl, HF.out, HB5.out, HK5.out, hz5⟩
      · have HF := Lib.hid (HSP.out hq)
        have t1b : ((q : Int) == 0) = false := by rw [beq_eq_false_iff_ne]; omega
        have t1 : ((q : Int) != 0) = true := by simp [bne, t1b]
        have t1c : (q == 0) = false := by rw [beq_eq_false_iff_ne]; exact hq
        clear HST HSP hq
        as_aux_lemma =>
        go_wp2_with fail
        go_ret
        exact ⟨by rw [HV.out, HF.out]; rfl, HB5.out⟩
    · have hii : ¬ (i : Int) < (LL.length : Int) := by omega
      have HF : Hid (checkL (lv + 1) LL = 0) := by
        have := HALL.out
        rwa [List.take_of_length_le (by omega)] at this
      as_aux_lemma =>
      go_wp2_with fail
      go_ret
      exact ⟨by rw [HV.out, HF.out]; rfl, HBW.out⟩
end Go.Proofs.YtomecnncighkgaaGreatDoor
/- The reference's check and Valid, all of it. -/
namespace Go.Proofs.YtomecnncighkgaaGreatDoor
open Go.RowKit

theorem vlist_slice {w : World} {L : List VT} {v : Value} (h : VList w L v) : ∃ ao cap, v = .slice ao L.length cap := by
  rcases h with ⟨ao, cap, rfl, rfl⟩ | ⟨bl, off, cap, rfl, _, hc, _⟩
  · exact ⟨ao, cap, rfl⟩
  · exact ⟨_, cap, rfl⟩
theorem vt_lt {t : VT} {k : Int} {b : Bool} {n : Int} {s : ByteArray} {L : List VT} {ks : List ByteArray} (h : t ∈ L) : SizeOf.sizeOf t < SizeOf.sizeOf (VT.mk k b n s L ks) := by
  have := List.sizeOf_lt_of_mem h
  simp only [VT.mk.sizeOf_spec]
  omega
theorem chk_all : ∀ (m : Nat) (t : VT), SizeOf.sizeOf t ≤ m → t.wf → ChkCalls t
  | 0, t, hm, _ => by
    cases t
    simp only [VT.mk.sizeOf_spec] at hm
    omega
  | m + 1, .mk k b n s L ks, hm, hwf => by
    intro lv hlv cs W h
    have hp := VT.wf_parts hwf
    rw [vcell_mk] at h
    obtain ⟨v4, v5, rfl, hs, hL⟩ := h
    obtain ⟨ko, kc, rfl⟩ := hs.form
    obtain ⟨lo, lc, rfl⟩ := vlist_slice hL
    have ih : ∀ t ∈ L, ChkCalls t := fun t ht => chk_all m t (by have := vt_lt (k := k) (b := b) (n := n) (s := s) (ks := ks) ht; omega) (hp.2.2.2.2.2.2 t ht)
    have hsz : ∀ x ∈ ks, x.size ≤ 9223372036854775807 := hp.2.2.2.2.2.1
    rw [checkF_eq]
    by_cases k4 : k = 4
    · subst k4; exact chk_4 lv hlv b n s L lo lc ko kc ks hsz W hs hL ih
    by_cases k5 : k = 5
    · subst k5; exact chk_5 lv hlv b n s L lo lc ko kc ks hsz W hs hL ih
    exact chk_o lv hlv k k4 k5 b n s L lo lc ko kc ks hsz W hs hL ih

set_option maxRecDepth 100000 in
set_option maxHeartbeats 1600000 in
theorem rvalid_any (v : Value) (t : VT) (w : World) (h : VAt w v t) (hwf : t.wf) : Calls Tryz.prog 79 #[v] w fun e w' => e = .returned (.int .i64 (validF t : Nat)) ∧ Below w.heap.size w w' := by
  have H := Lib.hid h
  obtain ⟨lv, kv, rfl, hs, hL⟩ := h.open
  have CH : Hid (∀ W, Below w.heap.size w W → Calls Tryz.prog 101 #[.agg #[.int .i64 t.kind, .bool t.bool, .int .i64 t.int, .string t.str, lv, kv], .int .i64 1] W fun e w' => e = .returned (.int .i64 (validF t : Nat)) ∧ Below W.heap.size W w') := fun W hW => by
    obtain ⟨cs, he, hc⟩ := H.out.below hW
    have := chk_all _ t (Nat.le_refl _) hwf 1 (by omega) cs W hc
    rw [← he] at this
    exact this
  have HA := fun o => Lib.hid ((Below.refl w.heap.size w).alloc (Nat.le_refl _) o)
  clear hs hL H h hwf
  generalize validF t = q at *
  go_enter Tryz.func79, Tryz.ntmps79
  go_wp2_with fail
  refine (CH.out _ (HA _).out).mono ?_
  rintro e w1 ⟨rfl, hb⟩
  have HB1 := Lib.hid ((HA _).out.trans (hb.mono (HA _).out.size))
  clear hb HA CH
  go_wp2_with fail
  go_ret
  exact ⟨rfl, HB1.out⟩
end Go.Proofs.YtomecnncighkgaaGreatDoor
