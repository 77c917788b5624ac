/- The walks over package glob's parser: first, parse, Valid. -/
import Derived.Test.YtnmbabaihfdljaaClass
namespace Go.Proofs.Ytnmbabaihfdljaa
open Go.RowKit
open Bs

/-- the element with which a pattern begins, and its length -/
def firstF (l : List UInt8) : Option (El × Nat) :=
  match l with
  | [] => none
  | c :: r =>
    if c.toNat = 42 then (if r.head? = some 42 then some (⟨full, true, false, 0⟩, 2) else some (⟨del full 47, true, false, 0⟩, 1))
    else if c.toNat = 63 then some (⟨del full 47, false, false, 0⟩, 1)
    else if c.toNat = 91 then (if classLen l = 0 then none else some (⟨classSet l, false, false, 0⟩, classLen l))
    else if c.toNat = 92 then (match r with | [] => none | d :: _ => some (litEl d.toNat, 2))
    else some (litEl c.toNat, 1)

def FirstPost (l : List UInt8) (w : World) (e : Ending) (w' : World) : Prop :=
  ∃ (E : El) (n : Nat), e = .returned (.tuple #[E.val, .int .i64 (n : Nat)]) ∧ (match firstF l with | none => n = 0 | some (E', n') => E = E' ∧ n = n' ∧ n ≠ 0) ∧ Below w.heap.size w w'

theorem zero_blk {w w1 : World} {o : Obj} (hb : Below (w.alloc o).heap.size (w.alloc o) w1) : w1.heap[w.heap.size]? = some o := by
  rw [hb.block _ (by simp)]; exact hp_new rfl

theorem below_new {w w1 : World} {o : Obj} (hb : Below (w.alloc o).heap.size (w.alloc o) w1) : Below w.heap.size w w1 :=
  ((Below.refl _ _).alloc (Nat.le_refl _) _).trans (hb.mono (by simp))

set_option maxRecDepth 100000 in
set_option maxHeartbeats 1600000 in
theorem first_any (s : ByteArray) (hs : s.size ≤ maxLen) (h1 : 1 ≤ s.size) (w : World) :
    Calls Try.prog 31 #[.string s] w (FirstPost s.data.toList w) := by
  have hs' := hs
  unfold maxLen at hs
  have q0 : 0 < s.size := h1
  obtain ⟨c, r, hl⟩ : ∃ c r, s.data.toList = c :: r := by
    have := Lib.size_eq s
    cases h : s.data.toList with
    | nil => rw [h, List.length_nil] at this; omega
    | cons c r => exact ⟨c, r, rfl⟩
  have h0 : (s[0]'q0).toNat = c.toNat := by rw [str_at hl 0 q0]; rfl
  have hsz : s.size = r.length + 1 := (str_cons hl).2
  have hr1 : ∀ q : 1 < s.size, r.head? = some (s[1]'q) ∧ ∃ r', r = s[1]'q :: r' := by
    intro q
    cases r with
    | nil => simp at hsz; omega
    | cons d r =>
      have e : s[1]'q = d := by rw [str_at hl 1 q]; rfl
      rw [e]; exact ⟨rfl, r, rfl⟩
  by_cases c42 : c.toNat = 42
  · have t1 : (((s[0]'q0).toNat : Int) == 42) = true := by simp [h0, c42]
    by_cases hr : ∃ q : 1 < s.size, (s[1]'q).toNat = 42
    · obtain ⟨q1, hr⟩ := hr
      have t2 : (((s[1]'q1).toNat : Int) == 42) = true := by simp [hr]
      have q1' : (1 : Int) < s.size := by omega
      have HF : Hid (firstF s.data.toList = some (⟨full, true, false, 0⟩, 2)) := by
        rw [hl]; simp [firstF, c42, (hr1 q1).1, u8_of_toNat hr, Hid]
      clear hl hr1 h0 hsz c42 hr
      go_enter Try.func31, Try.ntmps31
      go_wp2_with fail
      refine (most_true _).mono ?_
      rintro e w1 ⟨rfl, hb⟩
      have HO := Lib.hid (zero_blk hb)
      have HB := Lib.hid (below_new hb)
      clear hb
      go_wp2_with (first | (refine wpList_store_row rfl 45 _ _ rfl _ rfl 45 _ HO.out (El.val ⟨full, true, false, 0⟩) rfl (by kernel_rfl) rfl rfl ?_; intro w2 hW2; have HW2 := Lib.hid hW2; clear hW2))
      refine bodyPost_ret (results_row_tmp rfl _ _ _ 45 _ (0, 0) _ rfl HW2.out.at_ Try.underlying45 rfl (by kernel_rfl)) rfl ⟨⟨full, true, false, 0⟩, 2, rfl, ?_, HB.out.trans (HW2.out.below (Nat.le_refl _))⟩
      rw [HF.out]; exact ⟨rfl, rfl, by omega⟩
    · have HF : Hid (firstF s.data.toList = some (⟨del full 47, true, false, 0⟩, 1)) := by
        have : ¬ r.head? = some 42 := by
          intro h
          cases r with
          | nil => cases h
          | cons d r =>
            simp at h hsz
            have q1 : 1 < s.size := by omega
            refine hr ⟨q1, ?_⟩
            have := (hr1 q1).1
            simp at this
            rw [← this, h]; rfl
        rw [hl]; simp [firstF, c42, this, Hid]
      have hcs : ¬ ((1 : Int) < s.size) ∨ ((1 : Int) < s.size ∧ ∃ q : 1 < s.size, (((s[1]'q).toNat : Int) == 42) = false) := by
        by_cases q1 : 1 < s.size
        · right
          refine ⟨by omega, q1, ?_⟩
          rw [beq_eq_false_iff_ne]
          intro h
          exact hr ⟨q1, by omega⟩
        · left; omega
      clear hl hr1 h0 hsz c42 hr
      rcases hcs with h | ⟨h, h', h''⟩
      all_goals
        go_enter Try.func31, Try.ntmps31
        go_wp2_with fail
        refine (most_false _).mono ?_
        rintro e w1 ⟨rfl, hb⟩
        have HO := Lib.hid (zero_blk hb)
        have HB := Lib.hid (below_new hb)
        clear hb
        go_wp2_with (first | (refine wpList_store_row rfl 45 _ _ rfl _ rfl 45 _ HO.out (El.val ⟨del full 47, true, false, 0⟩) rfl (by kernel_rfl) rfl rfl ?_; intro w2 hW2; have HW2 := Lib.hid hW2; clear hW2))
        refine bodyPost_ret (results_row_tmp rfl _ _ _ 45 _ (0, 0) _ rfl HW2.out.at_ Try.underlying45 rfl (by kernel_rfl)) rfl ⟨⟨del full 47, true, false, 0⟩, 1, rfl, ?_, HB.out.trans (HW2.out.below (Nat.le_refl _))⟩
        rw [HF.out]; exact ⟨rfl, rfl, by omega⟩
  · have t1 : (((s[0]'q0).toNat : Int) == 42) = false := by rw [beq_eq_false_iff_ne]; omega
    by_cases c63 : c.toNat = 63
    · have t2 : (((s[0]'q0).toNat : Int) == 63) = true := by simp [h0, c63]
      have HF : Hid (firstF s.data.toList = some (⟨del full 47, false, false, 0⟩, 1)) := by
        rw [hl]; simp [firstF, c63, Hid]
      clear hl hr1 h0 hsz c42 c63
      go_enter Try.func31, Try.ntmps31
      go_wp2_with fail
      refine (most_false _).mono ?_
      rintro e w1 ⟨rfl, hb⟩
      have HO := Lib.hid (zero_blk hb)
      have HB := Lib.hid (below_new hb)
      clear hb
      go_wp2_with (first | (refine wpList_store_row rfl 45 _ _ rfl _ rfl 45 _ HO.out (El.val ⟨del full 47, false, false, 0⟩) rfl (by kernel_rfl) rfl rfl ?_; intro w2 hW2; have HW2 := Lib.hid hW2; clear hW2))
      refine bodyPost_ret (results_row_tmp rfl _ _ _ 45 _ (0, 0) _ rfl HW2.out.at_ Try.underlying45 rfl (by kernel_rfl)) rfl ⟨⟨del full 47, false, false, 0⟩, 1, rfl, ?_, HB.out.trans (HW2.out.below (Nat.le_refl _))⟩
      rw [HF.out]; exact ⟨rfl, rfl, by omega⟩
    · have t2 : (((s[0]'q0).toNat : Int) == 63) = false := by rw [beq_eq_false_iff_ne]; omega
      by_cases c91 : c.toNat = 91
      · have t3 : (((s[0]'q0).toNat : Int) == 91) = true := by simp [h0, c91]
        have HF : Hid (firstF s.data.toList = if classLen s.data.toList = 0 then none else some (⟨classSet s.data.toList, false, false, 0⟩, classLen s.data.toList)) := by
          rw [hl]; simp [firstF, c91, Hid]
        clear hl hr1 h0 hsz c42 c63 c91
        go_enter Try.func31, Try.ntmps31
        go_wp2_with fail
        refine (class_any s hs' h1 _).mono ?_
        rintro e w1 ⟨N, rfl, hN, hb⟩
        have HO := Lib.hid (zero_blk hb)
        have HB := Lib.hid (below_new hb)
        have HS1 : Hid (w.heap.size + 1 ≤ w1.heap.size) := by have := hb.size; simp at this; exact this
        have HN := Lib.hid hN
        clear hb hN
        generalize classLen s.data.toList = cl at *
        go_wp2_with (first | (refine wpList_store_row rfl 45 _ _ rfl _ rfl 45 _ ((hp_old (by have := HS1.out; omega)).trans HO.out) (El.val ⟨N, false, false, 0⟩) rfl (by kernel_rfl) rfl rfl ?_; intro w2 hW2; have HW2 := Lib.hid hW2; clear hW2))
        refine bodyPost_ret (results_row_tmp rfl _ _ _ 45 _ (0, 0) _ rfl HW2.out.at_ Try.underlying45 rfl (by kernel_rfl)) rfl ⟨⟨N, false, false, 0⟩, cl, rfl, ?_, (HB.out.alloc (by have := HS1.out; omega) _).trans (HW2.out.below (Nat.le_refl _))⟩
        rw [HF.out]
        by_cases h : cl = 0
        · rw [if_pos h]; exact h
        · rw [if_neg h]; exact ⟨by rw [HN.out h], rfl, h⟩
      · have t3 : (((s[0]'q0).toNat : Int) == 91) = false := by rw [beq_eq_false_iff_ne]; omega
        by_cases c92 : c.toNat = 92
        · have t4 : (((s[0]'q0).toNat : Int) == 92) = true := by simp [h0, c92]
          by_cases q1 : 1 < s.size
          · have HF : Hid (firstF s.data.toList = some (litEl (s[1]'q1).toNat, 2)) := by
              obtain ⟨r', hr'⟩ := (hr1 q1).2
              rw [hl, hr']; simp [firstF, c92, Hid]
            have q1' : ¬ ((s.size : Int) < 2) := by omega
            clear hl hr1 h0 hsz c42 c63 c91 c92
            have hb1 := (s[1]'q1).toNat_lt
            go_enter Try.func31, Try.ntmps31
            go_wp2_with fail
            refine (literal_any _ (by omega) (by omega) _).mono ?_
            rintro e w1 ⟨rfl, hb⟩
            have HO := Lib.hid (zero_blk hb)
            have HB := Lib.hid (below_new hb)
            clear hb
            go_wp2_with (first | (refine wpList_store_row rfl 45 _ _ rfl _ rfl 45 _ HO.out (El.val (litEl (s[1]'q1).toNat)) rfl (by kernel_rfl) rfl rfl ?_; intro w2 hW2; have HW2 := Lib.hid hW2; clear hW2))
            refine bodyPost_ret (results_row_tmp rfl _ _ _ 45 _ (0, 0) _ rfl HW2.out.at_ Try.underlying45 rfl (by kernel_rfl)) rfl ⟨(litEl (s[1]'q1).toNat), 2, rfl, ?_, HB.out.trans (HW2.out.below (Nat.le_refl _))⟩
            rw [HF.out]; exact ⟨rfl, rfl, by omega⟩
          · have HF : Hid (firstF s.data.toList = none) := by
              have : r = [] := by cases r with
                | nil => rfl
                | cons d r => simp at hsz; omega
              rw [hl, this]; simp [firstF, c92, Hid]
            have q1' : (s.size : Int) < 2 := by omega
            clear hl hr1 h0 hsz c42 c63 c91 c92
            have HO : Hid ((w.alloc (.cells #[.int .u64 0, .int .u64 0, .int .u64 0, .int .u64 0, .bool false, .bool false, .int .u8 0] 45)).heap[w.heap.size]? = some (.cells #[.int .u64 0, .int .u64 0, .int .u64 0, .int .u64 0, .bool false, .bool false, .int .u8 0] 45)) := hp_new rfl
            go_enter Try.func31, Try.ntmps31
            go_wp2_with (refine wpList_store_row rfl 45 _ _ rfl _ rfl 45 _ HO.out (.agg #[.int .u64 0, .int .u64 0, .int .u64 0, .int .u64 0, .bool false, .bool false, .int .u8 0]) rfl (by kernel_rfl) rfl rfl ?_; intro w2 hW2; have HW2 := Lib.hid hW2; clear hW2)
            refine bodyPost_ret (results_row_tmp rfl _ _ _ 45 _ (0, 0) _ rfl HW2.out.at_ Try.underlying45 rfl (by kernel_rfl)) rfl ⟨⟨0, false, false, 0⟩, 0, ?_, by rw [HF.out], ((Below.refl _ _).alloc (Nat.le_refl _) _).trans (HW2.out.below (Nat.le_refl _))⟩
            obtain ⟨h0, h1, h2, h3⟩ := wd_zero
            simp [Value.cells, h0, h1, h2, h3]
        · have t4 : (((s[0]'q0).toNat : Int) == 92) = false := by rw [beq_eq_false_iff_ne]; omega
          have HF : Hid (firstF s.data.toList = some (litEl (s[0]'q0).toNat, 1)) := by
            rw [hl, h0]; simp [firstF, c42, c63, c91, c92, Hid]
          clear hl hr1 h0 hsz c42 c63 c91 c92
          have hb1 := (s[0]'q0).toNat_lt
          go_enter Try.func31, Try.ntmps31
          go_wp2_with fail
          refine (literal_any _ (by omega) (by omega) _).mono ?_
          rintro e w1 ⟨rfl, hb⟩
          have HO := Lib.hid (zero_blk hb)
          have HB := Lib.hid (below_new hb)
          clear hb
          go_wp2_with (first | (refine wpList_store_row rfl 45 _ _ rfl _ rfl 45 _ HO.out (El.val (litEl (s[0]'q0).toNat)) rfl (by kernel_rfl) rfl rfl ?_; intro w2 hW2; have HW2 := Lib.hid hW2; clear hW2))
          refine bodyPost_ret (results_row_tmp rfl _ _ _ 45 _ (0, 0) _ rfl HW2.out.at_ Try.underlying45 rfl (by kernel_rfl)) rfl ⟨(litEl (s[0]'q0).toNat), 1, rfl, ?_, HB.out.trans (HW2.out.below (Nat.le_refl _))⟩
          rw [HF.out]; exact ⟨rfl, rfl, by omega⟩

end Go.Proofs.Ytnmbabaihfdljaa
