/- The walk over value.node, lists. -/
import Derived.Test.YtomecnncighkgaaGreatDoorVc3m
namespace Go.Proofs.YtomecnncighkgaaGreatDoor
open Go.RowKit

set_option maxRecDepth 100000 in
set_option maxHeartbeats 6400000 in
theorem node_4 (lv : Nat) (hlv : lv ≤ 9223372036854775807) (b : Bool) (n : Int) (s : ByteArray) (lo : Option Addr) (ln lc : Nat) (ko : Option Addr) (kc : Nat) (ks : List ByteArray) (hl : ks.length ≤ 9223372036854775807) (hsz : ∀ x ∈ ks, x.size ≤ 9223372036854775807) (w : World) (h : StrsAt w (.slice ko ks.length kc) ks) :
    Calls Tryz.prog 95 #[.agg #[.int .i64 4, .bool b, .int .i64 n, .string s, .slice lo ln lc, .slice ko ks.length kc], .int .i64 (lv : Nat)] w fun e w' => e = .returned (.int .i64 (nodeG lv 4 b n s ln ks : Nat)) ∧ Below w.heap.size w w' := by
  have H := Lib.hid h
  have HSZ := Lib.hid hsz
  have HLK := Lib.hid hl
  clear h hsz hl
  go_enter Tryz.func95, Tryz.ntmps95
  have HKI : Hid (0 ≤ (4 : Int) ∧ (4 : Int) ≤ 5) := by unfold Hid; omega
  by_cases h1 : 16 < lv
  · have t1 : (16 : Int) < (lv : Int) := by omega
    have HA := fun o => Lib.hid ((Below.refl w.heap.size w).alloc (Nat.le_refl _) o)
    have HV : Hid (nodeG lv 4 b n s ln ks = 13) := by
      unfold Hid nodeG
      rw [if_pos h1]
    as_aux_lemma =>
    go_wp2_with fail
    go_ret
    exact ⟨by rw [HV.out]; rfl, (HA _).out⟩
  have t1 : decide ((16 : Int) < (lv : Int)) = false := decide_eq_false (by omega)
  have UN := fun W => Lib.hid (unused_any 4 b n s lo ln lc ko ks.length kc W)
  have HA := fun o => Lib.hid ((Below.refl w.heap.size w).alloc (Nat.le_refl _) o)
  have HZ := fun o => Lib.hid (alloc_lt w o)
  by_cases hp : plainG 4 b n s ln ks.length = false
  · rw [hp] at UN
    have HV : Hid (nodeG lv 4 b n s ln ks = 1) := by
      unfold Hid nodeG
      rw [if_neg h1]
      rw [if_pos (Or.inr (Or.inr hp))]
    clear hp
    as_aux_lemma =>
    go_wp2_with fail
    refine (UN _).out.mono ?_
    rintro e w1 ⟨rfl, hb⟩
    have HB1 := Lib.hid ((HA _).out.trans (hb.mono (HA _).out.size))
    clear hb
    go_wp2_with fail
    go_ret
    exact ⟨by rw [HV.out]; rfl, HB1.out⟩
  have hpt : plainG 4 b n s ln ks.length = true := by simpa using hp
  rw [hpt] at UN
  have HN : Hid (nodeG lv 4 b n s ln ks = nodeH lv 4 n s ln ks) := by
    have := HKI.out
    unfold Hid nodeG nodeH
    rw [if_neg h1]
    rw [if_neg (fun h => h.elim (by omega) (fun h => h.elim (by omega) hp))]
  clear hp hpt
  go_wp2_with fail
  refine (UN _).out.mono ?_
  rintro e w1 ⟨rfl, hb⟩
  have HB1 := Lib.hid ((HA _).out.trans (hb.mono (HA _).out.size))
  have hz1 : w.heap.size < w1.heap.size := Nat.lt_of_lt_of_le (HZ _).out hb.size
  have c0 : w1.cell? ⟨w.heap.size, 0, none⟩ = some (.int .i64 4) := (hb.cell (p := ⟨w.heap.size, 0, none⟩) (HZ _).out).trans (cell_of_blk (hp_new rfl) 0)
  have c1 : w1.cell? ⟨w.heap.size, 1, none⟩ = some (.bool b) := (hb.cell (p := ⟨w.heap.size, 1, none⟩) (HZ _).out).trans (cell_of_blk (hp_new rfl) 1)
  have c2 : w1.cell? ⟨w.heap.size, 2, none⟩ = some (.int .i64 n) := (hb.cell (p := ⟨w.heap.size, 2, none⟩) (HZ _).out).trans (cell_of_blk (hp_new rfl) 2)
  have c3 : w1.cell? ⟨w.heap.size, 3, none⟩ = some (.string s) := (hb.cell (p := ⟨w.heap.size, 3, none⟩) (HZ _).out).trans (cell_of_blk (hp_new rfl) 3)
  have c4 : w1.cell? ⟨w.heap.size, 4, none⟩ = some (.slice lo ln lc) := (hb.cell (p := ⟨w.heap.size, 4, none⟩) (HZ _).out).trans (cell_of_blk (hp_new rfl) 4)
  have c5 : w1.cell? ⟨w.heap.size, 5, none⟩ = some (.slice ko ks.length kc) := (hb.cell (p := ⟨w.heap.size, 5, none⟩) (HZ _).out).trans (cell_of_blk (hp_new rfl) 5)
  have hbk : w1.heap[w.heap.size]? = some (.cells #[.int .i64 4, .bool b, .int .i64 n, .string s, .slice lo ln lc, .slice ko ks.length kc] 46) := (hb.block _ (HZ _).out).trans (hp_new rfl)
  have LV : (loadVar 46 ⟨w.heap.size, 0, none⟩).run Tryz.prog w1 = .ok (.agg #[.int .i64 4, .bool b, .int .i64 n, .string s, .slice lo ln lc, .slice ko ks.length kc]) w1 := run_loadVar_row w1 w.heap.size _ _ _ _ _ hbk Tryz.underlying46 rfl (by kernel_rfl)
  clear hb UN HA HZ hbk
  as_aux_lemma =>
  have HS : Hid (s.size = s.size) := rfl
  by_cases na : n < -9007199254740992
  · have tna : n < -9007199254740992 := by omega
    have HV : Hid (nodeG lv 4 b n s ln ks = 2) := by
      rw [Hid, HN.out]
      unfold nodeH
      rw [if_pos (Or.inl na)]
    as_aux_lemma =>
    go_wp2_with fail
    go_ret
    exact ⟨by rw [HV.out]; rfl, HB1.out⟩
  have tna : decide (n < -9007199254740992) = false := decide_eq_false (by omega)
  by_cases nb : 9007199254740992 < n
  · have tnb : (9007199254740992 : Int) < n := by omega
    have HV : Hid (nodeG lv 4 b n s ln ks = 2) := by
      rw [Hid, HN.out]
      unfold nodeH
      rw [if_pos (Or.inr nb)]
    as_aux_lemma =>
    go_wp2_with fail
    go_ret
    exact ⟨by rw [HV.out]; rfl, HB1.out⟩
  have tnb : decide ((9007199254740992 : Int) < n) = false := decide_eq_false (by omega)
  by_cases sa : 4096 < s.size
  · have tsa : (4096 : Int) < (s.size : Int) := by omega
    have HV : Hid (nodeG lv 4 b n s ln ks = 3) := by
      rw [Hid, HN.out]
      unfold nodeH
      rw [if_neg (fun h => h.elim na nb)]
      rw [if_pos (Or.inl sa)]
    as_aux_lemma =>
    go_wp2_with fail
    go_ret
    exact ⟨by rw [HV.out]; rfl, HB1.out⟩
  have tsa : decide ((4096 : Int) < (s.size : Int)) = false := decide_eq_false (by omega)
  by_cases sb : 1024 < ln
  · have tsb : (1024 : Int) < (ln : Int) := by omega
    have HV : Hid (nodeG lv 4 b n s ln ks = 3) := by
      rw [Hid, HN.out]
      unfold nodeH
      rw [if_neg (fun h => h.elim na nb)]
      rw [if_pos (Or.inr (Or.inl sb))]
    as_aux_lemma =>
    go_wp2_with fail
    go_ret
    exact ⟨by rw [HV.out]; rfl, HB1.out⟩
  have tsb : decide ((1024 : Int) < (ln : Int)) = false := decide_eq_false (by omega)
  by_cases sc : 1024 < ks.length
  · have tsc : (1024 : Int) < (ks.length : Int) := by omega
    have HV : Hid (nodeG lv 4 b n s ln ks = 3) := by
      rw [Hid, HN.out]
      unfold nodeH
      rw [if_neg (fun h => h.elim na nb)]
      rw [if_pos (Or.inr (Or.inr sc))]
    as_aux_lemma =>
    go_wp2_with fail
    go_ret
    exact ⟨by rw [HV.out]; rfl, HB1.out⟩
  have tsc : decide ((1024 : Int) < (ks.length : Int)) = false := decide_eq_false (by omega)
  by_cases e1 : ln = 0
  · have u1 : ((ln : Int) == 0) = true := by rw [beq_iff_eq]; omega
    have u1b : (ln == 0) = true := by rw [beq_iff_eq]; omega
    by_cases e2 : lv = 16
    · have u2 : ((lv : Int) == 16) = true := by rw [beq_iff_eq]; omega
      have u2b : (lv == 16) = true := by rw [beq_iff_eq]; omega
      have HV : Hid (nodeG lv 4 b n s ln ks = 13) := by
        rw [Hid, HN.out]
        unfold nodeH
        rw [if_neg (fun h => h.elim na nb)]
        rw [if_neg (fun h => h.elim sa (fun h => h.elim sb sc))]
        rw [if_neg (fun h => absurd h.1 (by decide))]
        rw [if_pos ⟨Or.inl rfl, e1, e2⟩]
      clear e1 e2
      as_aux_lemma =>
      go_wp2_with fail
      go_ret
      exact ⟨by rw [HV.out]; rfl, HB1.out⟩
    · have u2 : ((lv : Int) == 16) = false := by rw [beq_eq_false_iff_ne]; omega
      have u2b : (lv == 16) = false := by rw [beq_eq_false_iff_ne]; exact e2
      have HV : Hid (nodeG lv 4 b n s ln ks = 0) := by
        rw [Hid, HN.out]
        unfold nodeH
        rw [if_neg (fun h => h.elim na nb)]
        rw [if_neg (fun h => h.elim sa (fun h => h.elim sb sc))]
        rw [if_neg (fun h => absurd h.1 (by decide))]
        rw [if_neg (fun h => e2 h.2.2)]
      clear e1 e2
      as_aux_lemma =>
      go_wp2_with fail
      go_ret
      exact ⟨by rw [HV.out]; rfl, HB1.out⟩
  · have u1 : ((ln : Int) == 0) = false := by rw [beq_eq_false_iff_ne]; omega
    have u1b : (ln == 0) = false := by rw [beq_eq_false_iff_ne]; exact e1
    have HV : Hid (nodeG lv 4 b n s ln ks = 0) := by
      rw [Hid, HN.out]
      unfold nodeH
      rw [if_neg (fun h => h.elim na nb)]
      rw [if_neg (fun h => h.elim sa (fun h => h.elim sb sc))]
      rw [if_neg (fun h => absurd h.1 (by decide))]
      rw [if_neg (fun h => e1 h.2.1)]
    clear e1
    as_aux_lemma =>
    go_wp2_with fail
    go_ret
    exact ⟨by rw [HV.out]; rfl, HB1.out⟩
end Go.Proofs.YtomecnncighkgaaGreatDoor
/- The walk over value.node, maps. -/
namespace Go.Proofs.YtomecnncighkgaaGreatDoor
open Go.RowKit

set_option maxRecDepth 100000 in
set_option maxHeartbeats 6400000 in
theorem node_5 (lv : Nat) (hlv : lv ≤ 9223372036854775807) (b : Bool) (n : Int) (s : ByteArray) (lo : Option Addr) (ln lc : Nat) (ko : Option Addr) (kc : Nat) (ks : List ByteArray) (hl : ks.length ≤ 9223372036854775807) (hsz : ∀ x ∈ ks, x.size ≤ 9223372036854775807) (w : World) (h : StrsAt w (.slice ko ks.length kc) ks) :
    Calls Tryz.prog 95 #[.agg #[.int .i64 5, .bool b, .int .i64 n, .string s, .slice lo ln lc, .slice ko ks.length kc], .int .i64 (lv : Nat)] w fun e w' => e = .returned (.int .i64 (nodeG lv 5 b n s ln ks : Nat)) ∧ Below w.heap.size w w' := by
  have H := Lib.hid h
  have HSZ := Lib.hid hsz
  have HLK := Lib.hid hl
  clear h hsz hl
  go_enter Tryz.func95, Tryz.ntmps95
  have HKI : Hid (0 ≤ (5 : Int) ∧ (5 : Int) ≤ 5) := by unfold Hid; omega
  by_cases h1 : 16 < lv
  · have t1 : (16 : Int) < (lv : Int) := by omega
    have HA := fun o => Lib.hid ((Below.refl w.heap.size w).alloc (Nat.le_refl _) o)
    have HV : Hid (nodeG lv 5 b n s ln ks = 13) := by
      unfold Hid nodeG
      rw [if_pos h1]
    as_aux_lemma =>
    go_wp2_with fail
    go_ret
    exact ⟨by rw [HV.out]; rfl, (HA _).out⟩
  have t1 : decide ((16 : Int) < (lv : Int)) = false := decide_eq_false (by omega)
  have UN := fun W => Lib.hid (unused_any 5 b n s lo ln lc ko ks.length kc W)
  have HA := fun o => Lib.hid ((Below.refl w.heap.size w).alloc (Nat.le_refl _) o)
  have HZ := fun o => Lib.hid (alloc_lt w o)
  by_cases hp : plainG 5 b n s ln ks.length = false
  · rw [hp] at UN
    have HV : Hid (nodeG lv 5 b n s ln ks = 1) := by
      unfold Hid nodeG
      rw [if_neg h1]
      rw [if_pos (Or.inr (Or.inr hp))]
    clear hp
    as_aux_lemma =>
    go_wp2_with fail
    refine (UN _).out.mono ?_
    rintro e w1 ⟨rfl, hb⟩
    have HB1 := Lib.hid ((HA _).out.trans (hb.mono (HA _).out.size))
    clear hb
    go_wp2_with fail
    go_ret
    exact ⟨by rw [HV.out]; rfl, HB1.out⟩
  have hpt : plainG 5 b n s ln ks.length = true := by simpa using hp
  rw [hpt] at UN
  have HN : Hid (nodeG lv 5 b n s ln ks = nodeH lv 5 n s ln ks) := by
    have := HKI.out
    unfold Hid nodeG nodeH
    rw [if_neg h1]
    rw [if_neg (fun h => h.elim (by omega) (fun h => h.elim (by omega) hp))]
  clear hp hpt
  go_wp2_with fail
  refine (UN _).out.mono ?_
  rintro e w1 ⟨rfl, hb⟩
  have HB1 := Lib.hid ((HA _).out.trans (hb.mono (HA _).out.size))
  have hz1 : w.heap.size < w1.heap.size := Nat.lt_of_lt_of_le (HZ _).out hb.size
  have c0 : w1.cell? ⟨w.heap.size, 0, none⟩ = some (.int .i64 5) := (hb.cell (p := ⟨w.heap.size, 0, none⟩) (HZ _).out).trans (cell_of_blk (hp_new rfl) 0)
  have c1 : w1.cell? ⟨w.heap.size, 1, none⟩ = some (.bool b) := (hb.cell (p := ⟨w.heap.size, 1, none⟩) (HZ _).out).trans (cell_of_blk (hp_new rfl) 1)
  have c2 : w1.cell? ⟨w.heap.size, 2, none⟩ = some (.int .i64 n) := (hb.cell (p := ⟨w.heap.size, 2, none⟩) (HZ _).out).trans (cell_of_blk (hp_new rfl) 2)
  have c3 : w1.cell? ⟨w.heap.size, 3, none⟩ = some (.string s) := (hb.cell (p := ⟨w.heap.size, 3, none⟩) (HZ _).out).trans (cell_of_blk (hp_new rfl) 3)
  have c4 : w1.cell? ⟨w.heap.size, 4, none⟩ = some (.slice lo ln lc) := (hb.cell (p := ⟨w.heap.size, 4, none⟩) (HZ _).out).trans (cell_of_blk (hp_new rfl) 4)
  have c5 : w1.cell? ⟨w.heap.size, 5, none⟩ = some (.slice ko ks.length kc) := (hb.cell (p := ⟨w.heap.size, 5, none⟩) (HZ _).out).trans (cell_of_blk (hp_new rfl) 5)
  have hbk : w1.heap[w.heap.size]? = some (.cells #[.int .i64 5, .bool b, .int .i64 n, .string s, .slice lo ln lc, .slice ko ks.length kc] 46) := (hb.block _ (HZ _).out).trans (hp_new rfl)
  have LV : (loadVar 46 ⟨w.heap.size, 0, none⟩).run Tryz.prog w1 = .ok (.agg #[.int .i64 5, .bool b, .int .i64 n, .string s, .slice lo ln lc, .slice ko ks.length kc]) w1 := run_loadVar_row w1 w.heap.size _ _ _ _ _ hbk Tryz.underlying46 rfl (by kernel_rfl)
  clear hb UN HA HZ hbk
  as_aux_lemma =>
  have HS : Hid (s.size = s.size) := rfl
  by_cases na : n < -9007199254740992
  · have tna : n < -9007199254740992 := by omega
    have HV : Hid (nodeG lv 5 b n s ln ks = 2) := by
      rw [Hid, HN.out]
      unfold nodeH
      rw [if_pos (Or.inl na)]
    as_aux_lemma =>
    go_wp2_with fail
    go_ret
    exact ⟨by rw [HV.out]; rfl, HB1.out⟩
  have tna : decide (n < -9007199254740992) = false := decide_eq_false (by omega)
  by_cases nb : 9007199254740992 < n
  · have tnb : (9007199254740992 : Int) < n := by omega
    have HV : Hid (nodeG lv 5 b n s ln ks = 2) := by
      rw [Hid, HN.out]
      unfold nodeH
      rw [if_pos (Or.inr nb)]
    as_aux_lemma =>
    go_wp2_with fail
    go_ret
    exact ⟨by rw [HV.out]; rfl, HB1.out⟩
  have tnb : decide ((9007199254740992 : Int) < n) = false := decide_eq_false (by omega)
  by_cases sa : 4096 < s.size
  · have tsa : (4096 : Int) < (s.size : Int) := by omega
    have HV : Hid (nodeG lv 5 b n s ln ks = 3) := by
      rw [Hid, HN.out]
      unfold nodeH
      rw [if_neg (fun h => h.elim na nb)]
      rw [if_pos (Or.inl sa)]
    as_aux_lemma =>
    go_wp2_with fail
    go_ret
    exact ⟨by rw [HV.out]; rfl, HB1.out⟩
  have tsa : decide ((4096 : Int) < (s.size : Int)) = false := decide_eq_false (by omega)
  by_cases sb : 1024 < ln
  · have tsb : (1024 : Int) < (ln : Int) := by omega
    have HV : Hid (nodeG lv 5 b n s ln ks = 3) := by
      rw [Hid, HN.out]
      unfold nodeH
      rw [if_neg (fun h => h.elim na nb)]
      rw [if_pos (Or.inr (Or.inl sb))]
    as_aux_lemma =>
    go_wp2_with fail
    go_ret
    exact ⟨by rw [HV.out]; rfl, HB1.out⟩
  have tsb : decide ((1024 : Int) < (ln : Int)) = false := decide_eq_false (by omega)
  by_cases sc : 1024 < ks.length
  · have tsc : (1024 : Int) < (ks.length : Int) := by omega
    have HV : Hid (nodeG lv 5 b n s ln ks = 3) := by
      rw [Hid, HN.out]
      unfold nodeH
      rw [if_neg (fun h => h.elim na nb)]
      rw [if_pos (Or.inr (Or.inr sc))]
    as_aux_lemma =>
    go_wp2_with fail
    go_ret
    exact ⟨by rw [HV.out]; rfl, HB1.out⟩
  have tsc : decide ((1024 : Int) < (ks.length : Int)) = false := decide_eq_false (by omega)
  have KD := Lib.hid (keyed_any 5 b n s lo ln lc ko kc ks HLK.out HSZ.out w1 (H.out.below HB1.out))
  by_cases hk : (decide (ks.length = ln) && keysTo ks ks.length) = false
  · rw [hk] at KD
    have HV : Hid (nodeG lv 5 b n s ln ks = 1) := by
      rw [Hid, HN.out]
      unfold nodeH
      rw [if_neg (fun h => h.elim na nb)]
      rw [if_neg (fun h => h.elim sa (fun h => h.elim sb sc))]
      rw [if_pos ⟨rfl, hk⟩]
    clear hk
    as_aux_lemma =>
    go_wp2_with fail
    refine KD.out.mono ?_
    rintro e w2 ⟨rfl, hb2⟩
    have HB2 := Lib.hid (HB1.out.trans (hb2.mono HB1.out.size))
    clear hb2
    go_wp2_with fail
    go_ret
    exact ⟨by rw [HV.out]; rfl, HB2.out⟩
  have hkt : (decide (ks.length = ln) && keysTo ks ks.length) = true := by simpa using hk
  rw [hkt] at KD
  by_cases e1 : ln = 0
  · have u1 : ((ln : Int) == 0) = true := by rw [beq_iff_eq]; omega
    have u1b : (ln == 0) = true := by rw [beq_iff_eq]; omega
    by_cases e2 : lv = 16
    · have u2 : ((lv : Int) == 16) = true := by rw [beq_iff_eq]; omega
      have u2b : (lv == 16) = true := by rw [beq_iff_eq]; omega
      have HV : Hid (nodeG lv 5 b n s ln ks = 13) := by
        rw [Hid, HN.out]
        unfold nodeH
        rw [if_neg (fun h => h.elim na nb)]
        rw [if_neg (fun h => h.elim sa (fun h => h.elim sb sc))]
        rw [if_neg (fun h => hk h.2)]
        rw [if_pos ⟨Or.inr rfl, e1, e2⟩]
      clear hk hkt
      clear e1 e2
      as_aux_lemma =>
      go_wp2_with fail
      refine KD.out.mono ?_
      rintro e w2 ⟨rfl, hb2⟩
      have HB2 := Lib.hid (HB1.out.trans (hb2.mono HB1.out.size))
      have d4 : w2.cell? ⟨w.heap.size, 4, none⟩ = some (.slice lo ln lc) := (hb2.cell (p := ⟨w.heap.size, 4, none⟩) hz1).trans c4
      clear hb2 c0 c1 c2 c3 c4 c5 LV
      go_wp2_with fail
      go_ret
      exact ⟨by rw [HV.out]; rfl, HB2.out⟩
    · have u2 : ((lv : Int) == 16) = false := by rw [beq_eq_false_iff_ne]; omega
      have u2b : (lv == 16) = false := by rw [beq_eq_false_iff_ne]; exact e2
      have HV : Hid (nodeG lv 5 b n s ln ks = 0) := by
        rw [Hid, HN.out]
        unfold nodeH
        rw [if_neg (fun h => h.elim na nb)]
        rw [if_neg (fun h => h.elim sa (fun h => h.elim sb sc))]
        rw [if_neg (fun h => hk h.2)]
        rw [if_neg (fun h => e2 h.2.2)]
      clear hk hkt
      clear e1 e2
      as_aux_lemma =>
      go_wp2_with fail
      refine KD.out.mono ?_
      rintro e w2 ⟨rfl, hb2⟩
      have HB2 := Lib.hid (HB1.out.trans (hb2.mono HB1.out.size))
      have d4 : w2.cell? ⟨w.heap.size, 4, none⟩ = some (.slice lo ln lc) := (hb2.cell (p := ⟨w.heap.size, 4, none⟩) hz1).trans c4
      clear hb2 c0 c1 c2 c3 c4 c5 LV
      go_wp2_with fail
      go_ret
      exact ⟨by rw [HV.out]; rfl, HB2.out⟩
  · have u1 : ((ln : Int) == 0) = false := by rw [beq_eq_false_iff_ne]; omega
    have u1b : (ln == 0) = false := by rw [beq_eq_false_iff_ne]; exact e1
    have HV : Hid (nodeG lv 5 b n s ln ks = 0) := by
      rw [Hid, HN.out]
      unfold nodeH
      rw [if_neg (fun h => h.elim na nb)]
      rw [if_neg (fun h => h.elim sa (fun h => h.elim sb sc))]
      rw [if_neg (fun h => hk h.2)]
      rw [if_neg (fun h => e1 h.2.1)]
    clear hk hkt
    clear e1
    as_aux_lemma =>
    go_wp2_with fail
    refine KD.out.mono ?_
    rintro e w2 ⟨rfl, hb2⟩
    have HB2 := Lib.hid (HB1.out.trans (hb2.mono HB1.out.size))
    have d4 : w2.cell? ⟨w.heap.size, 4, none⟩ = some (.slice lo ln lc) := (hb2.cell (p := ⟨w.heap.size, 4, none⟩) hz1).trans c4
    clear hb2 c0 c1 c2 c3 c4 c5 LV
    go_wp2_with fail
    go_ret
    exact ⟨by rw [HV.out]; rfl, HB2.out⟩
end Go.Proofs.YtomecnncighkgaaGreatDoor
/- The walk over value.node, the rest, and all of it. -/
namespace Go.Proofs.YtomecnncighkgaaGreatDoor
open Go.RowKit

set_option maxRecDepth 100000 in
set_option maxHeartbeats 6400000 in
theorem node_o (lv : Nat) (hlv : lv ≤ 9223372036854775807) (k : Int) (k4 : ¬ k = 4) (k5 : ¬ k = 5) (b : Bool) (n : Int) (s : ByteArray) (lo : Option Addr) (ln lc : Nat) (ko : Option Addr) (kc : Nat) (ks : List ByteArray) (hl : ks.length ≤ 9223372036854775807) (hsz : ∀ x ∈ ks, x.size ≤ 9223372036854775807) (w : World) (h : StrsAt w (.slice ko ks.length kc) ks) :
    Calls Tryz.prog 95 #[.agg #[.int .i64 k, .bool b, .int .i64 n, .string s, .slice lo ln lc, .slice ko ks.length kc], .int .i64 (lv : Nat)] w fun e w' => e = .returned (.int .i64 (nodeG lv k b n s ln ks : Nat)) ∧ Below w.heap.size w w' := by
  have H := Lib.hid h
  have HSZ := Lib.hid hsz
  have HLK := Lib.hid hl
  clear h hsz hl
  go_enter Tryz.func95, Tryz.ntmps95
  have q4 : (k == 4) = false := by rw [beq_eq_false_iff_ne]; exact k4
  have q5 : (k == 5) = false := by rw [beq_eq_false_iff_ne]; exact k5
  by_cases h1 : 16 < lv
  · have t1 : (16 : Int) < (lv : Int) := by omega
    have HA := fun o => Lib.hid ((Below.refl w.heap.size w).alloc (Nat.le_refl _) o)
    have HV : Hid (nodeG lv k b n s ln ks = 13) := by
      unfold Hid nodeG
      rw [if_pos h1]
    as_aux_lemma =>
    go_wp2_with fail
    go_ret
    exact ⟨by rw [HV.out]; rfl, (HA _).out⟩
  have t1 : decide ((16 : Int) < (lv : Int)) = false := decide_eq_false (by omega)
  by_cases ka : k < 0
  · have HA := fun o => Lib.hid ((Below.refl w.heap.size w).alloc (Nat.le_refl _) o)
    have HV : Hid (nodeG lv k b n s ln ks = 1) := by
      unfold Hid nodeG
      rw [if_neg h1]
      rw [if_pos (Or.inl ka)]
    as_aux_lemma =>
    go_wp2_with fail
    go_ret
    exact ⟨by rw [HV.out]; rfl, (HA _).out⟩
  by_cases kb : 5 < k
  · have HA := fun o => Lib.hid ((Below.refl w.heap.size w).alloc (Nat.le_refl _) o)
    have tka : decide (k < 0) = false := decide_eq_false ka
    have HV : Hid (nodeG lv k b n s ln ks = 1) := by
      unfold Hid nodeG
      rw [if_neg h1]
      rw [if_pos (Or.inr (Or.inl kb))]
    as_aux_lemma =>
    go_wp2_with fail
    go_ret
    exact ⟨by rw [HV.out]; rfl, (HA _).out⟩
  have tka : decide (k < 0) = false := decide_eq_false ka
  have tkb : decide (5 < k) = false := decide_eq_false kb
  have HKI : Hid (0 ≤ k ∧ k ≤ 5) := ⟨by omega, by omega⟩
  have UN := fun W => Lib.hid (unused_any k b n s lo ln lc ko ks.length kc W)
  have HA := fun o => Lib.hid ((Below.refl w.heap.size w).alloc (Nat.le_refl _) o)
  have HZ := fun o => Lib.hid (alloc_lt w o)
  by_cases hp : plainG k b n s ln ks.length = false
  · rw [hp] at UN
    have HV : Hid (nodeG lv k b n s ln ks = 1) := by
      unfold Hid nodeG
      rw [if_neg h1]
      rw [if_pos (Or.inr (Or.inr hp))]
    clear hp
    as_aux_lemma =>
    go_wp2_with fail
    refine (UN _).out.mono ?_
    rintro e w1 ⟨rfl, hb⟩
    have HB1 := Lib.hid ((HA _).out.trans (hb.mono (HA _).out.size))
    clear hb
    go_wp2_with fail
    go_ret
    exact ⟨by rw [HV.out]; rfl, HB1.out⟩
  have hpt : plainG k b n s ln ks.length = true := by simpa using hp
  rw [hpt] at UN
  have HN : Hid (nodeG lv k b n s ln ks = nodeH lv k n s ln ks) := by
    have := HKI.out
    unfold Hid nodeG nodeH
    rw [if_neg h1]
    rw [if_neg (fun h => h.elim (by omega) (fun h => h.elim (by omega) hp))]
  clear hp hpt
  go_wp2_with fail
  refine (UN _).out.mono ?_
  rintro e w1 ⟨rfl, hb⟩
  have HB1 := Lib.hid ((HA _).out.trans (hb.mono (HA _).out.size))
  have hz1 : w.heap.size < w1.heap.size := Nat.lt_of_lt_of_le (HZ _).out hb.size
  have c0 : w1.cell? ⟨w.heap.size, 0, none⟩ = some (.int .i64 k) := (hb.cell (p := ⟨w.heap.size, 0, none⟩) (HZ _).out).trans (cell_of_blk (hp_new rfl) 0)
  have c1 : w1.cell? ⟨w.heap.size, 1, none⟩ = some (.bool b) := (hb.cell (p := ⟨w.heap.size, 1, none⟩) (HZ _).out).trans (cell_of_blk (hp_new rfl) 1)
  have c2 : w1.cell? ⟨w.heap.size, 2, none⟩ = some (.int .i64 n) := (hb.cell (p := ⟨w.heap.size, 2, none⟩) (HZ _).out).trans (cell_of_blk (hp_new rfl) 2)
  have c3 : w1.cell? ⟨w.heap.size, 3, none⟩ = some (.string s) := (hb.cell (p := ⟨w.heap.size, 3, none⟩) (HZ _).out).trans (cell_of_blk (hp_new rfl) 3)
  have c4 : w1.cell? ⟨w.heap.size, 4, none⟩ = some (.slice lo ln lc) := (hb.cell (p := ⟨w.heap.size, 4, none⟩) (HZ _).out).trans (cell_of_blk (hp_new rfl) 4)
  have c5 : w1.cell? ⟨w.heap.size, 5, none⟩ = some (.slice ko ks.length kc) := (hb.cell (p := ⟨w.heap.size, 5, none⟩) (HZ _).out).trans (cell_of_blk (hp_new rfl) 5)
  have hbk : w1.heap[w.heap.size]? = some (.cells #[.int .i64 k, .bool b, .int .i64 n, .string s, .slice lo ln lc, .slice ko ks.length kc] 46) := (hb.block _ (HZ _).out).trans (hp_new rfl)
  have LV : (loadVar 46 ⟨w.heap.size, 0, none⟩).run Tryz.prog w1 = .ok (.agg #[.int .i64 k, .bool b, .int .i64 n, .string s, .slice lo ln lc, .slice ko ks.length kc]) w1 := run_loadVar_row w1 w.heap.size _ _ _ _ _ hbk Tryz.underlying46 rfl (by kernel_rfl)
  clear hb UN HA HZ hbk
  as_aux_lemma =>
  have HS : Hid (s.size = s.size) := rfl
  by_cases na : n < -9007199254740992
  · have tna : n < -9007199254740992 := by omega
    have HV : Hid (nodeG lv k b n s ln ks = 2) := by
      rw [Hid, HN.out]
      unfold nodeH
      rw [if_pos (Or.inl na)]
    as_aux_lemma =>
    go_wp2_with fail
    go_ret
    exact ⟨by rw [HV.out]; rfl, HB1.out⟩
  have tna : decide (n < -9007199254740992) = false := decide_eq_false (by omega)
  by_cases nb : 9007199254740992 < n
  · have tnb : (9007199254740992 : Int) < n := by omega
    have HV : Hid (nodeG lv k b n s ln ks = 2) := by
      rw [Hid, HN.out]
      unfold nodeH
      rw [if_pos (Or.inr nb)]
    as_aux_lemma =>
    go_wp2_with fail
    go_ret
    exact ⟨by rw [HV.out]; rfl, HB1.out⟩
  have tnb : decide ((9007199254740992 : Int) < n) = false := decide_eq_false (by omega)
  by_cases sa : 4096 < s.size
  · have tsa : (4096 : Int) < (s.size : Int) := by omega
    have HV : Hid (nodeG lv k b n s ln ks = 3) := by
      rw [Hid, HN.out]
      unfold nodeH
      rw [if_neg (fun h => h.elim na nb)]
      rw [if_pos (Or.inl sa)]
    as_aux_lemma =>
    go_wp2_with fail
    go_ret
    exact ⟨by rw [HV.out]; rfl, HB1.out⟩
  have tsa : decide ((4096 : Int) < (s.size : Int)) = false := decide_eq_false (by omega)
  by_cases sb : 1024 < ln
  · have tsb : (1024 : Int) < (ln : Int) := by omega
    have HV : Hid (nodeG lv k b n s ln ks = 3) := by
      rw [Hid, HN.out]
      unfold nodeH
      rw [if_neg (fun h => h.elim na nb)]
      rw [if_pos (Or.inr (Or.inl sb))]
    as_aux_lemma =>
    go_wp2_with fail
    go_ret
    exact ⟨by rw [HV.out]; rfl, HB1.out⟩
  have tsb : decide ((1024 : Int) < (ln : Int)) = false := decide_eq_false (by omega)
  by_cases sc : 1024 < ks.length
  · have tsc : (1024 : Int) < (ks.length : Int) := by omega
    have HV : Hid (nodeG lv k b n s ln ks = 3) := by
      rw [Hid, HN.out]
      unfold nodeH
      rw [if_neg (fun h => h.elim na nb)]
      rw [if_pos (Or.inr (Or.inr sc))]
    as_aux_lemma =>
    go_wp2_with fail
    go_ret
    exact ⟨by rw [HV.out]; rfl, HB1.out⟩
  have tsc : decide ((1024 : Int) < (ks.length : Int)) = false := decide_eq_false (by omega)
  have HV : Hid (nodeG lv k b n s ln ks = 0) := by
    rw [Hid, HN.out]
    unfold nodeH
    rw [if_neg (fun h => h.elim na nb)]
    rw [if_neg (fun h => h.elim sa (fun h => h.elim sb sc))]
    rw [if_neg (fun h => k5 h.1)]
    rw [if_neg (fun h => h.1.elim k4 k5)]
  as_aux_lemma =>
  go_wp2_with fail
  go_ret
  exact ⟨by rw [HV.out]; rfl, HB1.out⟩
set_option maxRecDepth 100000 in
set_option maxHeartbeats 6400000 in
theorem node_any (lv : Nat) (hlv : lv ≤ 9223372036854775807) (k : Int) (b : Bool) (n : Int) (s : ByteArray) (lo : Option Addr) (ln lc : Nat) (ko : Option Addr) (kc : Nat) (ks : List ByteArray) (hl : ks.length ≤ 9223372036854775807) (hsz : ∀ x ∈ ks, x.size ≤ 9223372036854775807) (w : World) (h : StrsAt w (.slice ko ks.length kc) ks) :
    Calls Tryz.prog 95 #[.agg #[.int .i64 k, .bool b, .int .i64 n, .string s, .slice lo ln lc, .slice ko ks.length kc], .int .i64 (lv : Nat)] w fun e w' => e = .returned (.int .i64 (nodeG lv k b n s ln ks : Nat)) ∧ Below w.heap.size w w' := by
  by_cases k4 : k = 4
  · subst k4; exact node_4 lv hlv b n s lo ln lc ko kc ks hl hsz w h
  by_cases k5 : k = 5
  · subst k5; exact node_5 lv hlv b n s lo ln lc ko kc ks hl hsz w h
  exact node_o lv hlv k k4 k5 b n s lo ln lc ko kc ks hl hsz w h
end Go.Proofs.YtomecnncighkgaaGreatDoor
