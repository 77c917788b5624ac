/- The walks over value.truth and value.unused, and over the reference's sign, key, plain. -/
import Derived.Test.YtomecnncighkgaaGreatDoorVa1
import Derived.Test.YtomecnncighkgaaGreatDoorRows
namespace Go.Proofs.YtomecnncighkgaaGreatDoor
open Go.RowKit

/-- the fields that a kind does not use are empty, by their lengths -/
def plainG (k : Int) (b : Bool) (n : Int) (s : ByteArray) (ln kn : Nat) : Bool := (decide (k = 1) || !b) && (decide (k = 2) || decide (n = 0)) && (decide (k = 3) || decide (s.data.toList = [])) && (decide (k = 4) || decide (k = 5) || decide (ln = 0)) && (decide (k = 5) || decide (kn = 0))
theorem plainF_eq (t : VT) : plainF t = plainG t.kind t.bool t.int t.str t.list.length t.keys.length := rfl
theorem bytes_nil {s : ByteArray} (h : s.data.toList = []) : s = ⟨#[]⟩ := by cases s; simp at h; simp [h]
theorem str_some {s : ByteArray} (h : s.data.toList ≠ []) : s.toList.isEmpty = false ∧ (s.toList == []) = false := by
  rw [Lib.toList_data]
  cases hs : s.data.toList with
  | nil => exact absurd hs h
  | cons a l => exact ⟨rfl, rfl⟩

set_option maxRecDepth 100000 in
theorem truth_any (b : Bool) (w : World) : Calls Tryz.prog 90 #[.bool b] w fun e w' => e = .returned (.int .i64 (if b then 1 else 0)) ∧ w' = w := by
  go_enter Tryz.func90, Tryz.ntmps90
  cases b with
  | true =>
    go_wp2_with fail
    go_ret
    exact ⟨rfl, rfl⟩
  | false =>
    go_wp2_with fail
    go_ret
    exact ⟨rfl, rfl⟩
set_option maxRecDepth 100000 in
theorem sign_any (b : Bool) (w : World) : Calls Tryz.prog 119 #[.bool b] w fun e w' => e = .returned (.int .i64 (if b then -1 else 1)) ∧ w' = w := by
  go_enter Tryz.func119, Tryz.ntmps119
  cases b with
  | true =>
    go_wp2_with fail
    go_ret
    exact ⟨rfl, rfl⟩
  | false =>
    go_wp2_with fail
    go_ret
    exact ⟨rfl, rfl⟩
set_option maxRecDepth 100000 in
theorem key_any (s : ByteArray) (w : World) : Calls Tryz.prog 145 #[.string s] w fun e w' => e = .returned (.bool (keyOk s)) ∧ w' = w := by
  by_cases h1 : 1 ≤ s.size
  · have h1i : (1 : Int) ≤ (s.size : Int) := by omega
    by_cases h2 : s.size ≤ 64
    · have h2i : (s.size : Int) ≤ 64 := by omega
      have HR : Hid (keyOk s = true) := by unfold Hid keyOk; rw [decide_eq_true h1, decide_eq_true h2]; rfl
      clear h1 h2
      go_enter Tryz.func145, Tryz.ntmps145
      go_wp2_with fail
      go_ret
      exact ⟨by rw [HR.out]; rfl, rfl⟩
    · have h2i : decide ((s.size : Int) ≤ 64) = false := decide_eq_false (by omega)
      have HR : Hid (keyOk s = false) := by unfold Hid keyOk; rw [decide_eq_false h2]; simp
      clear h1 h2
      go_enter Tryz.func145, Tryz.ntmps145
      go_wp2_with fail
      go_ret
      exact ⟨by rw [HR.out]; rfl, rfl⟩
  · have h1i : decide ((1 : Int) ≤ (s.size : Int)) = false := decide_eq_false (by omega)
    have HR : Hid (keyOk s = false) := by unfold Hid keyOk; rw [decide_eq_false h1]; rfl
    clear h1
    go_enter Tryz.func145, Tryz.ntmps145
    go_wp2_with fail
    go_ret
    exact ⟨by rw [HR.out]; rfl, rfl⟩

set_option maxRecDepth 100000 in
set_option maxHeartbeats 6400000 in
theorem unused_any (k : Int) (b : Bool) (n : Int) (s : ByteArray) (lo : Option Addr) (ln lc : Nat) (ko : Option Addr) (kn kc : Nat) (w : World) :
    Calls Tryz.prog 125 #[.agg #[.int .i64 k, .bool b, .int .i64 n, .string s, .slice lo ln lc, .slice ko kn kc]] w fun e w' => e = .returned (.bool (plainG k b n s ln kn)) ∧ Below w.heap.size w w' := by
  go_enter Tryz.func125, Tryz.ntmps125
  by_cases k1 : k = 1
  · subst k1
    by_cases hn : n = 0
    · subst hn
      by_cases hs : s.data.toList = []
      · obtain rfl := bytes_nil hs
        clear hs
        by_cases hl : ln = 0
        · subst hl
          by_cases hk : kn = 0
          · subst hk
            have HV : Hid (plainG 1 b 0 ⟨#[]⟩ 0 0 = true) := by unfold Hid plainG; simp
            as_aux_lemma =>
            go_wp2_with fail
            go_ret
            exact ⟨by rw [HV.out]; rfl, (Below.refl _ w).alloc (Nat.le_refl _) _⟩
          · have tk : ((kn : Int) == 0) = false := by rw [beq_eq_false_iff_ne]; omega
            have tk2 : (kn == 0) = false := by rw [beq_eq_false_iff_ne]; exact hk
            have HV : Hid (plainG 1 b 0 ⟨#[]⟩ 0 kn = false) := by unfold Hid plainG; simp [hk]
            clear hk
            as_aux_lemma =>
            go_wp2_with fail
            go_ret
            exact ⟨by rw [HV.out]; rfl, (Below.refl _ w).alloc (Nat.le_refl _) _⟩
        · have tl : ((ln : Int) == 0) = false := by rw [beq_eq_false_iff_ne]; omega
          have tl2 : (ln == 0) = false := by rw [beq_eq_false_iff_ne]; exact hl
          have tl3 : (0 : Int) < (ln : Int) := by omega
          have HV : Hid (plainG 1 b 0 ⟨#[]⟩ ln kn = false) := by unfold Hid plainG; simp [hl]
          clear hl
          as_aux_lemma =>
          go_wp2_with fail
          go_ret
          exact ⟨by rw [HV.out]; rfl, (Below.refl _ w).alloc (Nat.le_refl _) _⟩
      · obtain ⟨ts, ts2⟩ := str_some hs
        have HV : Hid (plainG 1 b 0 s ln kn = false) := by unfold Hid plainG; simp [hs]
        clear hs
        as_aux_lemma =>
        go_wp2_with fail
        go_ret
        exact ⟨by rw [HV.out]; rfl, (Below.refl _ w).alloc (Nat.le_refl _) _⟩
    · have tn : (n == 0) = false := by rw [beq_eq_false_iff_ne]; exact hn
      have tn2 : (n != 0) = true := by rw [bne_iff_ne]; exact hn
      have HV : Hid (plainG 1 b n s ln kn = false) := by unfold Hid plainG; simp [hn]
      clear hn
      as_aux_lemma =>
      go_wp2_with fail
      go_ret
      exact ⟨by rw [HV.out]; rfl, (Below.refl _ w).alloc (Nat.le_refl _) _⟩
  by_cases k2 : k = 2
  · subst k2
    cases b with
    | true =>
      have HV : Hid (plainG 2 true n s ln kn = false) := by unfold Hid plainG; simp
      as_aux_lemma =>
      go_wp2_with fail
      go_ret
      exact ⟨by rw [HV.out]; rfl, (Below.refl _ w).alloc (Nat.le_refl _) _⟩
    | false =>
      by_cases hs : s.data.toList = []
      · obtain rfl := bytes_nil hs
        clear hs
        by_cases hl : ln = 0
        · subst hl
          by_cases hk : kn = 0
          · subst hk
            have HV : Hid (plainG 2 false n ⟨#[]⟩ 0 0 = true) := by unfold Hid plainG; simp
            as_aux_lemma =>
            go_wp2_with fail
            go_ret
            exact ⟨by rw [HV.out]; rfl, (Below.refl _ w).alloc (Nat.le_refl _) _⟩
          · have tk : ((kn : Int) == 0) = false := by rw [beq_eq_false_iff_ne]; omega
            have tk2 : (kn == 0) = false := by rw [beq_eq_false_iff_ne]; exact hk
            have HV : Hid (plainG 2 false n ⟨#[]⟩ 0 kn = false) := by unfold Hid plainG; simp [hk]
            clear hk
            as_aux_lemma =>
            go_wp2_with fail
            go_ret
            exact ⟨by rw [HV.out]; rfl, (Below.refl _ w).alloc (Nat.le_refl _) _⟩
        · have tl : ((ln : Int) == 0) = false := by rw [beq_eq_false_iff_ne]; omega
          have tl2 : (ln == 0) = false := by rw [beq_eq_false_iff_ne]; exact hl
          have tl3 : (0 : Int) < (ln : Int) := by omega
          have HV : Hid (plainG 2 false n ⟨#[]⟩ ln kn = false) := by unfold Hid plainG; simp [hl]
          clear hl
          as_aux_lemma =>
          go_wp2_with fail
          go_ret
          exact ⟨by rw [HV.out]; rfl, (Below.refl _ w).alloc (Nat.le_refl _) _⟩
      · obtain ⟨ts, ts2⟩ := str_some hs
        have HV : Hid (plainG 2 false n s ln kn = false) := by unfold Hid plainG; simp [hs]
        clear hs
        as_aux_lemma =>
        go_wp2_with fail
        go_ret
        exact ⟨by rw [HV.out]; rfl, (Below.refl _ w).alloc (Nat.le_refl _) _⟩
  by_cases k3 : k = 3
  · subst k3
    cases b with
    | true =>
      have HV : Hid (plainG 3 true n s ln kn = false) := by unfold Hid plainG; simp
      as_aux_lemma =>
      go_wp2_with fail
      go_ret
      exact ⟨by rw [HV.out]; rfl, (Below.refl _ w).alloc (Nat.le_refl _) _⟩
    | false =>
      by_cases hn : n = 0
      · subst hn
        by_cases hl : ln = 0
        · subst hl
          by_cases hk : kn = 0
          · subst hk
            have HV : Hid (plainG 3 false 0 s 0 0 = true) := by unfold Hid plainG; simp
            as_aux_lemma =>
            go_wp2_with fail
            go_ret
            exact ⟨by rw [HV.out]; rfl, (Below.refl _ w).alloc (Nat.le_refl _) _⟩
          · have tk : ((kn : Int) == 0) = false := by rw [beq_eq_false_iff_ne]; omega
            have tk2 : (kn == 0) = false := by rw [beq_eq_false_iff_ne]; exact hk
            have HV : Hid (plainG 3 false 0 s 0 kn = false) := by unfold Hid plainG; simp [hk]
            clear hk
            as_aux_lemma =>
            go_wp2_with fail
            go_ret
            exact ⟨by rw [HV.out]; rfl, (Below.refl _ w).alloc (Nat.le_refl _) _⟩
        · have tl : ((ln : Int) == 0) = false := by rw [beq_eq_false_iff_ne]; omega
          have tl2 : (ln == 0) = false := by rw [beq_eq_false_iff_ne]; exact hl
          have tl3 : (0 : Int) < (ln : Int) := by omega
          have HV : Hid (plainG 3 false 0 s ln kn = false) := by unfold Hid plainG; simp [hl]
          clear hl
          as_aux_lemma =>
          go_wp2_with fail
          go_ret
          exact ⟨by rw [HV.out]; rfl, (Below.refl _ w).alloc (Nat.le_refl _) _⟩
      · have tn : (n == 0) = false := by rw [beq_eq_false_iff_ne]; exact hn
        have tn2 : (n != 0) = true := by rw [bne_iff_ne]; exact hn
        have HV : Hid (plainG 3 false n s ln kn = false) := by unfold Hid plainG; simp [hn]
        clear hn
        as_aux_lemma =>
        go_wp2_with fail
        go_ret
        exact ⟨by rw [HV.out]; rfl, (Below.refl _ w).alloc (Nat.le_refl _) _⟩
  by_cases k4 : k = 4
  · subst k4
    cases b with
    | true =>
      have HV : Hid (plainG 4 true n s ln kn = false) := by unfold Hid plainG; simp
      as_aux_lemma =>
      go_wp2_with fail
      go_ret
      exact ⟨by rw [HV.out]; rfl, (Below.refl _ w).alloc (Nat.le_refl _) _⟩
    | false =>
      by_cases hn : n = 0
      · subst hn
        by_cases hs : s.data.toList = []
        · obtain rfl := bytes_nil hs
          clear hs
          by_cases hk : kn = 0
          · subst hk
            have HV : Hid (plainG 4 false 0 ⟨#[]⟩ ln 0 = true) := by unfold Hid plainG; simp
            as_aux_lemma =>
            go_wp2_with fail
            go_ret
            exact ⟨by rw [HV.out]; rfl, (Below.refl _ w).alloc (Nat.le_refl _) _⟩
          · have tk : ((kn : Int) == 0) = false := by rw [beq_eq_false_iff_ne]; omega
            have tk2 : (kn == 0) = false := by rw [beq_eq_false_iff_ne]; exact hk
            have HV : Hid (plainG 4 false 0 ⟨#[]⟩ ln kn = false) := by unfold Hid plainG; simp [hk]
            clear hk
            as_aux_lemma =>
            go_wp2_with fail
            go_ret
            exact ⟨by rw [HV.out]; rfl, (Below.refl _ w).alloc (Nat.le_refl _) _⟩
        · obtain ⟨ts, ts2⟩ := str_some hs
          have HV : Hid (plainG 4 false 0 s ln kn = false) := by unfold Hid plainG; simp [hs]
          clear hs
          as_aux_lemma =>
          go_wp2_with fail
          go_ret
          exact ⟨by rw [HV.out]; rfl, (Below.refl _ w).alloc (Nat.le_refl _) _⟩
      · have tn : (n == 0) = false := by rw [beq_eq_false_iff_ne]; exact hn
        have tn2 : (n != 0) = true := by rw [bne_iff_ne]; exact hn
        have HV : Hid (plainG 4 false n s ln kn = false) := by unfold Hid plainG; simp [hn]
        clear hn
        as_aux_lemma =>
        go_wp2_with fail
        go_ret
        exact ⟨by rw [HV.out]; rfl, (Below.refl _ w).alloc (Nat.le_refl _) _⟩
  by_cases k5 : k = 5
  · subst k5
    cases b with
    | true =>
      have HV : Hid (plainG 5 true n s ln kn = false) := by unfold Hid plainG; simp
      as_aux_lemma =>
      go_wp2_with fail
      go_ret
      exact ⟨by rw [HV.out]; rfl, (Below.refl _ w).alloc (Nat.le_refl _) _⟩
    | false =>
      by_cases hn : n = 0
      · subst hn
        by_cases hs : s.data.toList = []
        · obtain rfl := bytes_nil hs
          clear hs
          have HV : Hid (plainG 5 false 0 ⟨#[]⟩ ln kn = true) := by unfold Hid plainG; simp
          as_aux_lemma =>
          go_wp2_with fail
          go_ret
          exact ⟨by rw [HV.out]; rfl, (Below.refl _ w).alloc (Nat.le_refl _) _⟩
        · obtain ⟨ts, ts2⟩ := str_some hs
          have HV : Hid (plainG 5 false 0 s ln kn = false) := by unfold Hid plainG; simp [hs]
          clear hs
          as_aux_lemma =>
          go_wp2_with fail
          go_ret
          exact ⟨by rw [HV.out]; rfl, (Below.refl _ w).alloc (Nat.le_refl _) _⟩
      · have tn : (n == 0) = false := by rw [beq_eq_false_iff_ne]; exact hn
        have tn2 : (n != 0) = true := by rw [bne_iff_ne]; exact hn
        have HV : Hid (plainG 5 false n s ln kn = false) := by unfold Hid plainG; simp [hn]
        clear hn
        as_aux_lemma =>
        go_wp2_with fail
        go_ret
        exact ⟨by rw [HV.out]; rfl, (Below.refl _ w).alloc (Nat.le_refl _) _⟩
  have q1 : (k == 1) = false := by rw [beq_eq_false_iff_ne]; exact k1
  have p1 : (k != 1) = true := by rw [bne_iff_ne]; exact k1
  have q2 : (k == 2) = false := by rw [beq_eq_false_iff_ne]; exact k2
  have p2 : (k != 2) = true := by rw [bne_iff_ne]; exact k2
  have q3 : (k == 3) = false := by rw [beq_eq_false_iff_ne]; exact k3
  have p3 : (k != 3) = true := by rw [bne_iff_ne]; exact k3
  have q4 : (k == 4) = false := by rw [beq_eq_false_iff_ne]; exact k4
  have p4 : (k != 4) = true := by rw [bne_iff_ne]; exact k4
  have q5 : (k == 5) = false := by rw [beq_eq_false_iff_ne]; exact k5
  have p5 : (k != 5) = true := by rw [bne_iff_ne]; exact k5
  cases b with
  | true =>
    have HV : Hid (plainG k true n s ln kn = false) := by unfold Hid plainG; simp [k1, k2, k3, k4, k5]
    skip
    as_aux_lemma =>
    go_wp2_with fail
    go_ret
    exact ⟨by rw [HV.out]; rfl, (Below.refl _ w).alloc (Nat.le_refl _) _⟩
  | false =>
    by_cases hn : n = 0
    · subst hn
      by_cases hs : s.data.toList = []
      · obtain rfl := bytes_nil hs
        clear hs
        by_cases hl : ln = 0
        · subst hl
          by_cases hk : kn = 0
          · subst hk
            have HV : Hid (plainG k false 0 ⟨#[]⟩ 0 0 = true) := by unfold Hid plainG; simp [k1, k2, k3, k4, k5]
            skip
            as_aux_lemma =>
            go_wp2_with fail
            go_ret
            exact ⟨by rw [HV.out]; rfl, (Below.refl _ w).alloc (Nat.le_refl _) _⟩
          · have tk : ((kn : Int) == 0) = false := by rw [beq_eq_false_iff_ne]; omega
            have tk2 : (kn == 0) = false := by rw [beq_eq_false_iff_ne]; exact hk
            have HV : Hid (plainG k false 0 ⟨#[]⟩ 0 kn = false) := by unfold Hid plainG; simp [k1, k2, k3, k4, k5, hk]
            clear hk
            as_aux_lemma =>
            go_wp2_with fail
            go_ret
            exact ⟨by rw [HV.out]; rfl, (Below.refl _ w).alloc (Nat.le_refl _) _⟩
        · have tl : ((ln : Int) == 0) = false := by rw [beq_eq_false_iff_ne]; omega
          have tl2 : (ln == 0) = false := by rw [beq_eq_false_iff_ne]; exact hl
          have tl3 : (0 : Int) < (ln : Int) := by omega
          have HV : Hid (plainG k false 0 ⟨#[]⟩ ln kn = false) := by unfold Hid plainG; simp [k1, k2, k3, k4, k5, hl]
          clear hl
          as_aux_lemma =>
          go_wp2_with fail
          go_ret
          exact ⟨by rw [HV.out]; rfl, (Below.refl _ w).alloc (Nat.le_refl _) _⟩
      · obtain ⟨ts, ts2⟩ := str_some hs
        have HV : Hid (plainG k false 0 s ln kn = false) := by unfold Hid plainG; simp [k1, k2, k3, k4, k5, hs]
        clear hs
        as_aux_lemma =>
        go_wp2_with fail
        go_ret
        exact ⟨by rw [HV.out]; rfl, (Below.refl _ w).alloc (Nat.le_refl _) _⟩
    · have tn : (n == 0) = false := by rw [beq_eq_false_iff_ne]; exact hn
      have tn2 : (n != 0) = true := by rw [bne_iff_ne]; exact hn
      have HV : Hid (plainG k false n s ln kn = false) := by unfold Hid plainG; simp [k1, k2, k3, k4, k5, hn]
      clear hn
      as_aux_lemma =>
      go_wp2_with fail
      go_ret
      exact ⟨by rw [HV.out]; rfl, (Below.refl _ w).alloc (Nat.le_refl _) _⟩

set_option maxRecDepth 100000 in
set_option maxHeartbeats 6400000 in
theorem plain_any (k : Int) (b : Bool) (n : Int) (s : ByteArray) (lo : Option Addr) (ln lc : Nat) (ko : Option Addr) (kn kc : Nat) (w : World) :
    Calls Tryz.prog 132 #[.agg #[.int .i64 k, .bool b, .int .i64 n, .string s, .slice lo ln lc, .slice ko kn kc]] w fun e w' => e = .returned (.bool (plainG k b n s ln kn)) ∧ Below w.heap.size w w' := by
  go_enter Tryz.func132, Tryz.ntmps132
  by_cases k1 : k = 1
  · subst k1
    cases b with
    | true =>
      by_cases hn : n = 0
      · subst hn
        by_cases hs : s.data.toList = []
        · obtain rfl := bytes_nil hs
          clear hs
          by_cases hl : ln = 0
          · subst hl
            by_cases hk : kn = 0
            · subst hk
              have HV : Hid (plainG 1 true 0 ⟨#[]⟩ 0 0 = true) := by unfold Hid plainG; simp
              as_aux_lemma =>
              go_wp2_with fail
              go_ret
              exact ⟨by rw [HV.out]; rfl, (Below.refl _ w).alloc (Nat.le_refl _) _⟩
            · have tk : ((kn : Int) == 0) = false := by rw [beq_eq_false_iff_ne]; omega
              have tk2 : (kn == 0) = false := by rw [beq_eq_false_iff_ne]; exact hk
              have HV : Hid (plainG 1 true 0 ⟨#[]⟩ 0 kn = false) := by unfold Hid plainG; simp [hk]
              clear hk
              as_aux_lemma =>
              go_wp2_with fail
              go_ret
              exact ⟨by rw [HV.out]; rfl, (Below.refl _ w).alloc (Nat.le_refl _) _⟩
          · have tl : ((ln : Int) == 0) = false := by rw [beq_eq_false_iff_ne]; omega
            have tl2 : (ln == 0) = false := by rw [beq_eq_false_iff_ne]; exact hl
            have tl3 : (0 : Int) < (ln : Int) := by omega
            have HV : Hid (plainG 1 true 0 ⟨#[]⟩ ln kn = false) := by unfold Hid plainG; simp [hl]
            clear hl
            as_aux_lemma =>
            go_wp2_with fail
            go_ret
            exact ⟨by rw [HV.out]; rfl, (Below.refl _ w).alloc (Nat.le_refl _) _⟩
        · obtain ⟨ts, ts2⟩ := str_some hs
          have HV : Hid (plainG 1 true 0 s ln kn = false) := by unfold Hid plainG; simp [hs]
          clear hs
          as_aux_lemma =>
          go_wp2_with fail
          go_ret
          exact ⟨by rw [HV.out]; rfl, (Below.refl _ w).alloc (Nat.le_refl _) _⟩
      · have tn : (n == 0) = false := by rw [beq_eq_false_iff_ne]; exact hn
        have tn2 : (n != 0) = true := by rw [bne_iff_ne]; exact hn
        have HV : Hid (plainG 1 true n s ln kn = false) := by unfold Hid plainG; simp [hn]
        clear hn
        as_aux_lemma =>
        go_wp2_with fail
        go_ret
        exact ⟨by rw [HV.out]; rfl, (Below.refl _ w).alloc (Nat.le_refl _) _⟩
    | false =>
      by_cases hn : n = 0
      · subst hn
        by_cases hs : s.data.toList = []
        · obtain rfl := bytes_nil hs
          clear hs
          by_cases hl : ln = 0
          · subst hl
            by_cases hk : kn = 0
            · subst hk
              have HV : Hid (plainG 1 false 0 ⟨#[]⟩ 0 0 = true) := by unfold Hid plainG; simp
              as_aux_lemma =>
              go_wp2_with fail
              go_ret
              exact ⟨by rw [HV.out]; rfl, (Below.refl _ w).alloc (Nat.le_refl _) _⟩
            · have tk : ((kn : Int) == 0) = false := by rw [beq_eq_false_iff_ne]; omega
              have tk2 : (kn == 0) = false := by rw [beq_eq_false_iff_ne]; exact hk
              have HV : Hid (plainG 1 false 0 ⟨#[]⟩ 0 kn = false) := by unfold Hid plainG; simp [hk]
              clear hk
              as_aux_lemma =>
              go_wp2_with fail
              go_ret
              exact ⟨by rw [HV.out]; rfl, (Below.refl _ w).alloc (Nat.le_refl _) _⟩
          · have tl : ((ln : Int) == 0) = false := by rw [beq_eq_false_iff_ne]; omega
            have tl2 : (ln == 0) = false := by rw [beq_eq_false_iff_ne]; exact hl
            have tl3 : (0 : Int) < (ln : Int) := by omega
            have HV : Hid (plainG 1 false 0 ⟨#[]⟩ ln kn = false) := by unfold Hid plainG; simp [hl]
            clear hl
            as_aux_lemma =>
            go_wp2_with fail
            go_ret
            exact ⟨by rw [HV.out]; rfl, (Below.refl _ w).alloc (Nat.le_refl _) _⟩
        · obtain ⟨ts, ts2⟩ := str_some hs
          have HV : Hid (plainG 1 false 0 s ln kn = false) := by unfold Hid plainG; simp [hs]
          clear hs
          as_aux_lemma =>
          go_wp2_with fail
          go_ret
          exact ⟨by rw [HV.out]; rfl, (Below.refl _ w).alloc (Nat.le_refl _) _⟩
      · have tn : (n == 0) = false := by rw [beq_eq_false_iff_ne]; exact hn
        have tn2 : (n != 0) = true := by rw [bne_iff_ne]; exact hn
        have HV : Hid (plainG 1 false n s ln kn = false) := by unfold Hid plainG; simp [hn]
        clear hn
        as_aux_lemma =>
        go_wp2_with fail
        go_ret
        exact ⟨by rw [HV.out]; rfl, (Below.refl _ w).alloc (Nat.le_refl _) _⟩
  by_cases k2 : k = 2
  · subst k2
    cases b with
    | true =>
      have HV : Hid (plainG 2 true n s ln kn = false) := by unfold Hid plainG; simp
      as_aux_lemma =>
      go_wp2_with fail
      go_ret
      exact ⟨by rw [HV.out]; rfl, (Below.refl _ w).alloc (Nat.le_refl _) _⟩
    | false =>
      by_cases hn : n = 0
      · subst hn
        by_cases hs : s.data.toList = []
        · obtain rfl := bytes_nil hs
          clear hs
          by_cases hl : ln = 0
          · subst hl
            by_cases hk : kn = 0
            · subst hk
              have HV : Hid (plainG 2 false 0 ⟨#[]⟩ 0 0 = true) := by unfold Hid plainG; simp
              as_aux_lemma =>
              go_wp2_with fail
              go_ret
              exact ⟨by rw [HV.out]; rfl, (Below.refl _ w).alloc (Nat.le_refl _) _⟩
            · have tk : ((kn : Int) == 0) = false := by rw [beq_eq_false_iff_ne]; omega
              have tk2 : (kn == 0) = false := by rw [beq_eq_false_iff_ne]; exact hk
              have HV : Hid (plainG 2 false 0 ⟨#[]⟩ 0 kn = false) := by unfold Hid plainG; simp [hk]
              clear hk
              as_aux_lemma =>
              go_wp2_with fail
              go_ret
              exact ⟨by rw [HV.out]; rfl, (Below.refl _ w).alloc (Nat.le_refl _) _⟩
          · have tl : ((ln : Int) == 0) = false := by rw [beq_eq_false_iff_ne]; omega
            have tl2 : (ln == 0) = false := by rw [beq_eq_false_iff_ne]; exact hl
            have tl3 : (0 : Int) < (ln : Int) := by omega
            have HV : Hid (plainG 2 false 0 ⟨#[]⟩ ln kn = false) := by unfold Hid plainG; simp [hl]
            clear hl
            as_aux_lemma =>
            go_wp2_with fail
            go_ret
            exact ⟨by rw [HV.out]; rfl, (Below.refl _ w).alloc (Nat.le_refl _) _⟩
        · obtain ⟨ts, ts2⟩ := str_some hs
          have HV : Hid (plainG 2 false 0 s ln kn = false) := by unfold Hid plainG; simp [hs]
          clear hs
          as_aux_lemma =>
          go_wp2_with fail
          go_ret
          exact ⟨by rw [HV.out]; rfl, (Below.refl _ w).alloc (Nat.le_refl _) _⟩
      · have tn : (n == 0) = false := by rw [beq_eq_false_iff_ne]; exact hn
        have tn2 : (n != 0) = true := by rw [bne_iff_ne]; exact hn
        by_cases hs : s.data.toList = []
        · obtain rfl := bytes_nil hs
          clear hs
          by_cases hl : ln = 0
          · subst hl
            by_cases hk : kn = 0
            · subst hk
              have HV : Hid (plainG 2 false n ⟨#[]⟩ 0 0 = true) := by unfold Hid plainG; simp [hn]
              clear hn
              as_aux_lemma =>
              go_wp2_with fail
              go_ret
              exact ⟨by rw [HV.out]; rfl, (Below.refl _ w).alloc (Nat.le_refl _) _⟩
            · have tk : ((kn : Int) == 0) = false := by rw [beq_eq_false_iff_ne]; omega
              have tk2 : (kn == 0) = false := by rw [beq_eq_false_iff_ne]; exact hk
              have HV : Hid (plainG 2 false n ⟨#[]⟩ 0 kn = false) := by unfold Hid plainG; simp [hn, hk]
              clear hn hk
              as_aux_lemma =>
              go_wp2_with fail
              go_ret
              exact ⟨by rw [HV.out]; rfl, (Below.refl _ w).alloc (Nat.le_refl _) _⟩
          · have tl : ((ln : Int) == 0) = false := by rw [beq_eq_false_iff_ne]; omega
            have tl2 : (ln == 0) = false := by rw [beq_eq_false_iff_ne]; exact hl
            have tl3 : (0 : Int) < (ln : Int) := by omega
            have HV : Hid (plainG 2 false n ⟨#[]⟩ ln kn = false) := by unfold Hid plainG; simp [hn, hl]
            clear hn hl
            as_aux_lemma =>
            go_wp2_with fail
            go_ret
            exact ⟨by rw [HV.out]; rfl, (Below.refl _ w).alloc (Nat.le_refl _) _⟩
        · obtain ⟨ts, ts2⟩ := str_some hs
          have HV : Hid (plainG 2 false n s ln kn = false) := by unfold Hid plainG; simp [hn, hs]
          clear hn hs
          as_aux_lemma =>
          go_wp2_with fail
          go_ret
          exact ⟨by rw [HV.out]; rfl, (Below.refl _ w).alloc (Nat.le_refl _) _⟩
  by_cases k3 : k = 3
  · subst k3
    cases b with
    | true =>
      have HV : Hid (plainG 3 true n s ln kn = false) := by unfold Hid plainG; simp
      as_aux_lemma =>
      go_wp2_with fail
      go_ret
      exact ⟨by rw [HV.out]; rfl, (Below.refl _ w).alloc (Nat.le_refl _) _⟩
    | false =>
      by_cases hn : n = 0
      · subst hn
        by_cases hs : s.data.toList = []
        · obtain rfl := bytes_nil hs
          clear hs
          by_cases hl : ln = 0
          · subst hl
            by_cases hk : kn = 0
            · subst hk
              have HV : Hid (plainG 3 false 0 ⟨#[]⟩ 0 0 = true) := by unfold Hid plainG; simp
              as_aux_lemma =>
              go_wp2_with fail
              go_ret
              exact ⟨by rw [HV.out]; rfl, (Below.refl _ w).alloc (Nat.le_refl _) _⟩
            · have tk : ((kn : Int) == 0) = false := by rw [beq_eq_false_iff_ne]; omega
              have tk2 : (kn == 0) = false := by rw [beq_eq_false_iff_ne]; exact hk
              have HV : Hid (plainG 3 false 0 ⟨#[]⟩ 0 kn = false) := by unfold Hid plainG; simp [hk]
              clear hk
              as_aux_lemma =>
              go_wp2_with fail
              go_ret
              exact ⟨by rw [HV.out]; rfl, (Below.refl _ w).alloc (Nat.le_refl _) _⟩
          · have tl : ((ln : Int) == 0) = false := by rw [beq_eq_false_iff_ne]; omega
            have tl2 : (ln == 0) = false := by rw [beq_eq_false_iff_ne]; exact hl
            have tl3 : (0 : Int) < (ln : Int) := by omega
            have HV : Hid (plainG 3 false 0 ⟨#[]⟩ ln kn = false) := by unfold Hid plainG; simp [hl]
            clear hl
            as_aux_lemma =>
            go_wp2_with fail
            go_ret
            exact ⟨by rw [HV.out]; rfl, (Below.refl _ w).alloc (Nat.le_refl _) _⟩
        · obtain ⟨ts, ts2⟩ := str_some hs
          by_cases hl : ln = 0
          · subst hl
            by_cases hk : kn = 0
            · subst hk
              have HV : Hid (plainG 3 false 0 s 0 0 = true) := by unfold Hid plainG; simp [hs]
              clear hs
              as_aux_lemma =>
              go_wp2_with fail
              go_ret
              exact ⟨by rw [HV.out]; rfl, (Below.refl _ w).alloc (Nat.le_refl _) _⟩
            · have tk : ((kn : Int) == 0) = false := by rw [beq_eq_false_iff_ne]; omega
              have tk2 : (kn == 0) = false := by rw [beq_eq_false_iff_ne]; exact hk
              have HV : Hid (plainG 3 false 0 s 0 kn = false) := by unfold Hid plainG; simp [hs, hk]
              clear hs hk
              as_aux_lemma =>
              go_wp2_with fail
              go_ret
              exact ⟨by rw [HV.out]; rfl, (Below.refl _ w).alloc (Nat.le_refl _) _⟩
          · have tl : ((ln : Int) == 0) = false := by rw [beq_eq_false_iff_ne]; omega
            have tl2 : (ln == 0) = false := by rw [beq_eq_false_iff_ne]; exact hl
            have tl3 : (0 : Int) < (ln : Int) := by omega
            have HV : Hid (plainG 3 false 0 s ln kn = false) := by unfold Hid plainG; simp [hs, hl]
            clear hs hl
            as_aux_lemma =>
            go_wp2_with fail
            go_ret
            exact ⟨by rw [HV.out]; rfl, (Below.refl _ w).alloc (Nat.le_refl _) _⟩
      · have tn : (n == 0) = false := by rw [beq_eq_false_iff_ne]; exact hn
        have tn2 : (n != 0) = true := by rw [bne_iff_ne]; exact hn
        have HV : Hid (plainG 3 false n s ln kn = false) := by unfold Hid plainG; simp [hn]
        clear hn
        as_aux_lemma =>
        go_wp2_with fail
        go_ret
        exact ⟨by rw [HV.out]; rfl, (Below.refl _ w).alloc (Nat.le_refl _) _⟩
  by_cases k4 : k = 4
  · subst k4
    cases b with
    | true =>
      have HV : Hid (plainG 4 true n s ln kn = false) := by unfold Hid plainG; simp
      as_aux_lemma =>
      go_wp2_with fail
      go_ret
      exact ⟨by rw [HV.out]; rfl, (Below.refl _ w).alloc (Nat.le_refl _) _⟩
    | false =>
      by_cases hn : n = 0
      · subst hn
        by_cases hs : s.data.toList = []
        · obtain rfl := bytes_nil hs
          clear hs
          by_cases hl : ln = 0
          · subst hl
            by_cases hk : kn = 0
            · subst hk
              have HV : Hid (plainG 4 false 0 ⟨#[]⟩ 0 0 = true) := by unfold Hid plainG; simp
              as_aux_lemma =>
              go_wp2_with fail
              go_ret
              exact ⟨by rw [HV.out]; rfl, (Below.refl _ w).alloc (Nat.le_refl _) _⟩
            · have tk : ((kn : Int) == 0) = false := by rw [beq_eq_false_iff_ne]; omega
              have tk2 : (kn == 0) = false := by rw [beq_eq_false_iff_ne]; exact hk
              have HV : Hid (plainG 4 false 0 ⟨#[]⟩ 0 kn = false) := by unfold Hid plainG; simp [hk]
              clear hk
              as_aux_lemma =>
              go_wp2_with fail
              go_ret
              exact ⟨by rw [HV.out]; rfl, (Below.refl _ w).alloc (Nat.le_refl _) _⟩
          · have tl : ((ln : Int) == 0) = false := by rw [beq_eq_false_iff_ne]; omega
            have tl2 : (ln == 0) = false := by rw [beq_eq_false_iff_ne]; exact hl
            have tl3 : (0 : Int) < (ln : Int) := by omega
            by_cases hk : kn = 0
            · subst hk
              have HV : Hid (plainG 4 false 0 ⟨#[]⟩ ln 0 = true) := by unfold Hid plainG; simp [hl]
              clear hl
              as_aux_lemma =>
              go_wp2_with fail
              go_ret
              exact ⟨by rw [HV.out]; rfl, (Below.refl _ w).alloc (Nat.le_refl _) _⟩
            · have tk : ((kn : Int) == 0) = false := by rw [beq_eq_false_iff_ne]; omega
              have tk2 : (kn == 0) = false := by rw [beq_eq_false_iff_ne]; exact hk
              have HV : Hid (plainG 4 false 0 ⟨#[]⟩ ln kn = false) := by unfold Hid plainG; simp [hl, hk]
              clear hl hk
              as_aux_lemma =>
              go_wp2_with fail
              go_ret
              exact ⟨by rw [HV.out]; rfl, (Below.refl _ w).alloc (Nat.le_refl _) _⟩
        · obtain ⟨ts, ts2⟩ := str_some hs
          have HV : Hid (plainG 4 false 0 s ln kn = false) := by unfold Hid plainG; simp [hs]
          clear hs
          as_aux_lemma =>
          go_wp2_with fail
          go_ret
          exact ⟨by rw [HV.out]; rfl, (Below.refl _ w).alloc (Nat.le_refl _) _⟩
      · have tn : (n == 0) = false := by rw [beq_eq_false_iff_ne]; exact hn
        have tn2 : (n != 0) = true := by rw [bne_iff_ne]; exact hn
        have HV : Hid (plainG 4 false n s ln kn = false) := by unfold Hid plainG; simp [hn]
        clear hn
        as_aux_lemma =>
        go_wp2_with fail
        go_ret
        exact ⟨by rw [HV.out]; rfl, (Below.refl _ w).alloc (Nat.le_refl _) _⟩
  by_cases k5 : k = 5
  · subst k5
    cases b with
    | true =>
      have HV : Hid (plainG 5 true n s ln kn = false) := by unfold Hid plainG; simp
      as_aux_lemma =>
      go_wp2_with fail
      go_ret
      exact ⟨by rw [HV.out]; rfl, (Below.refl _ w).alloc (Nat.le_refl _) _⟩
    | false =>
      by_cases hn : n = 0
      · subst hn
        by_cases hs : s.data.toList = []
        · obtain rfl := bytes_nil hs
          clear hs
          by_cases hl : ln = 0
          · subst hl
            by_cases hk : kn = 0
            · subst hk
              have HV : Hid (plainG 5 false 0 ⟨#[]⟩ 0 0 = true) := by unfold Hid plainG; simp
              as_aux_lemma =>
              go_wp2_with fail
              go_ret
              exact ⟨by rw [HV.out]; rfl, (Below.refl _ w).alloc (Nat.le_refl _) _⟩
            · have tk : ((kn : Int) == 0) = false := by rw [beq_eq_false_iff_ne]; omega
              have tk2 : (kn == 0) = false := by rw [beq_eq_false_iff_ne]; exact hk
              have HV : Hid (plainG 5 false 0 ⟨#[]⟩ 0 kn = true) := by unfold Hid plainG; simp [hk]
              clear hk
              as_aux_lemma =>
              go_wp2_with fail
              go_ret
              exact ⟨by rw [HV.out]; rfl, (Below.refl _ w).alloc (Nat.le_refl _) _⟩
          · have tl : ((ln : Int) == 0) = false := by rw [beq_eq_false_iff_ne]; omega
            have tl2 : (ln == 0) = false := by rw [beq_eq_false_iff_ne]; exact hl
            have tl3 : (0 : Int) < (ln : Int) := by omega
            by_cases hk : kn = 0
            · subst hk
              have HV : Hid (plainG 5 false 0 ⟨#[]⟩ ln 0 = true) := by unfold Hid plainG; simp [hl]
              clear hl
              as_aux_lemma =>
              go_wp2_with fail
              go_ret
              exact ⟨by rw [HV.out]; rfl, (Below.refl _ w).alloc (Nat.le_refl _) _⟩
            · have tk : ((kn : Int) == 0) = false := by rw [beq_eq_false_iff_ne]; omega
              have tk2 : (kn == 0) = false := by rw [beq_eq_false_iff_ne]; exact hk
              have HV : Hid (plainG 5 false 0 ⟨#[]⟩ ln kn = true) := by unfold Hid plainG; simp [hl, hk]
              clear hl hk
              as_aux_lemma =>
              go_wp2_with fail
              go_ret
              exact ⟨by rw [HV.out]; rfl, (Below.refl _ w).alloc (Nat.le_refl _) _⟩
        · obtain ⟨ts, ts2⟩ := str_some hs
          have HV : Hid (plainG 5 false 0 s ln kn = false) := by unfold Hid plainG; simp [hs]
          clear hs
          as_aux_lemma =>
          go_wp2_with fail
          go_ret
          exact ⟨by rw [HV.out]; rfl, (Below.refl _ w).alloc (Nat.le_refl _) _⟩
      · have tn : (n == 0) = false := by rw [beq_eq_false_iff_ne]; exact hn
        have tn2 : (n != 0) = true := by rw [bne_iff_ne]; exact hn
        have HV : Hid (plainG 5 false n s ln kn = false) := by unfold Hid plainG; simp [hn]
        clear hn
        as_aux_lemma =>
        go_wp2_with fail
        go_ret
        exact ⟨by rw [HV.out]; rfl, (Below.refl _ w).alloc (Nat.le_refl _) _⟩
  have q1 : (k == 1) = false := by rw [beq_eq_false_iff_ne]; exact k1
  have p1 : (k != 1) = true := by rw [bne_iff_ne]; exact k1
  have q2 : (k == 2) = false := by rw [beq_eq_false_iff_ne]; exact k2
  have p2 : (k != 2) = true := by rw [bne_iff_ne]; exact k2
  have q3 : (k == 3) = false := by rw [beq_eq_false_iff_ne]; exact k3
  have p3 : (k != 3) = true := by rw [bne_iff_ne]; exact k3
  have q4 : (k == 4) = false := by rw [beq_eq_false_iff_ne]; exact k4
  have p4 : (k != 4) = true := by rw [bne_iff_ne]; exact k4
  have q5 : (k == 5) = false := by rw [beq_eq_false_iff_ne]; exact k5
  have p5 : (k != 5) = true := by rw [bne_iff_ne]; exact k5
  cases b with
  | true =>
    have HV : Hid (plainG k true n s ln kn = false) := by unfold Hid plainG; simp [k1, k2, k3, k4, k5]
    skip
    as_aux_lemma =>
    go_wp2_with fail
    go_ret
    exact ⟨by rw [HV.out]; rfl, (Below.refl _ w).alloc (Nat.le_refl _) _⟩
  | false =>
    by_cases hn : n = 0
    · subst hn
      by_cases hs : s.data.toList = []
      · obtain rfl := bytes_nil hs
        clear hs
        by_cases hl : ln = 0
        · subst hl
          by_cases hk : kn = 0
          · subst hk
            have HV : Hid (plainG k false 0 ⟨#[]⟩ 0 0 = true) := by unfold Hid plainG; simp [k1, k2, k3, k4, k5]
            skip
            as_aux_lemma =>
            go_wp2_with fail
            go_ret
            exact ⟨by rw [HV.out]; rfl, (Below.refl _ w).alloc (Nat.le_refl _) _⟩
          · have tk : ((kn : Int) == 0) = false := by rw [beq_eq_false_iff_ne]; omega
            have tk2 : (kn == 0) = false := by rw [beq_eq_false_iff_ne]; exact hk
            have HV : Hid (plainG k false 0 ⟨#[]⟩ 0 kn = false) := by unfold Hid plainG; simp [k1, k2, k3, k4, k5, hk]
            clear hk
            as_aux_lemma =>
            go_wp2_with fail
            go_ret
            exact ⟨by rw [HV.out]; rfl, (Below.refl _ w).alloc (Nat.le_refl _) _⟩
        · have tl : ((ln : Int) == 0) = false := by rw [beq_eq_false_iff_ne]; omega
          have tl2 : (ln == 0) = false := by rw [beq_eq_false_iff_ne]; exact hl
          have tl3 : (0 : Int) < (ln : Int) := by omega
          have HV : Hid (plainG k false 0 ⟨#[]⟩ ln kn = false) := by unfold Hid plainG; simp [k1, k2, k3, k4, k5, hl]
          clear hl
          as_aux_lemma =>
          go_wp2_with fail
          go_ret
          exact ⟨by rw [HV.out]; rfl, (Below.refl _ w).alloc (Nat.le_refl _) _⟩
      · obtain ⟨ts, ts2⟩ := str_some hs
        have HV : Hid (plainG k false 0 s ln kn = false) := by unfold Hid plainG; simp [k1, k2, k3, k4, k5, hs]
        clear hs
        as_aux_lemma =>
        go_wp2_with fail
        go_ret
        exact ⟨by rw [HV.out]; rfl, (Below.refl _ w).alloc (Nat.le_refl _) _⟩
    · have tn : (n == 0) = false := by rw [beq_eq_false_iff_ne]; exact hn
      have tn2 : (n != 0) = true := by rw [bne_iff_ne]; exact hn
      have HV : Hid (plainG k false n s ln kn = false) := by unfold Hid plainG; simp [k1, k2, k3, k4, k5, hn]
      clear hn
      as_aux_lemma =>
      go_wp2_with fail
      go_ret
      exact ⟨by rw [HV.out]; rfl, (Below.refl _ w).alloc (Nat.le_refl _) _⟩

end Go.Proofs.YtomecnncighkgaaGreatDoor
