/- The walks over package glob's parser: first, parse, Valid. -/
import Derived.Test.YtghahghbahcpfaaGreatDoorVg1
namespace Go.Proofs.YtghahghbahcpfaaGreatDoor.G6
open Go.RowKit
open Bs

/-- the element with which a pattern begins, and its length -/
def firstF (l : List UInt8) : Option (El × Nat) :=
  match l with
  | [] => none
  | c :: r =>
    if c.toNat = 42 then (if r.head? = some 42 then some (⟨full, true, false, 0⟩, 2) else some (⟨del full 47, true, false, 0⟩, 1))
    else if c.toNat = 63 then some (⟨del full 47, false, false, 0⟩, 1)
    else if c.toNat = 91 then (if classLen l = 0 then none else some (⟨classSet l, false, false, 0⟩, classLen l))
    else if c.toNat = 92 then (match r with | [] => none | d :: _ => some (litEl d.toNat, 2))
    else some (litEl c.toNat, 1)

def FirstPost (l : List UInt8) (w : World) (e : Ending) (w' : World) : Prop :=
  ∃ (E : El) (n : Nat), e = .returned (.tuple #[E.val, .int .i64 (n : Nat)]) ∧ (match firstF l with | none => n = 0 | some (E', n') => E = E' ∧ n = n' ∧ n ≠ 0) ∧ Below w.heap.size w w'

theorem zero_blk {w w1 : World} {o : Obj} (hb : Below (w.alloc o).heap.size (w.alloc o) w1) : w1.heap[w.heap.size]? = some o := by
  rw [hb.block _ (by simp)]; exact hp_new rfl

theorem below_new {w w1 : World} {o : Obj} (hb : Below (w.alloc o).heap.size (w.alloc o) w1) : Below w.heap.size w w1 :=
  ((Below.refl _ _).alloc (Nat.le_refl _) _).trans (hb.mono (by simp))

set_option maxRecDepth 100000 in
set_option maxHeartbeats 1600000 in
theorem first_any (s : ByteArray) (hs : s.size ≤ maxLen) (h1 : 1 ≤ s.size) (w : World) :
    Calls Tryz.prog 144 #[.string s] w (FirstPost s.data.toList w) := by
  have hs' := hs
  unfold maxLen at hs
  have q0 : 0 < s.size := h1
  obtain ⟨c, r, hl⟩ : ∃ c r, s.data.toList = c :: r := by
    have := Lib.size_eq s
    cases h : s.data.toList with
    | nil => rw [h, List.length_nil] at this; omega
    | cons c r => exact ⟨c, r, rfl⟩
  have h0 : (s[0]'q0).toNat = c.toNat := by rw [str_at hl 0 q0]; rfl
  have hsz : s.size = r.length + 1 := (str_cons hl).2
  have hr1 : ∀ q : 1 < s.size, r.head? = some (s[1]'q) ∧ ∃ r', r = s[1]'q :: r' := by
    intro q
    cases r with
    | nil => simp at hsz; omega
    | cons d r =>
      have e : s[1]'q = d := by rw [str_at hl 1 q]; rfl
      rw [e]; exact ⟨rfl, r, rfl⟩
  by_cases c42 : c.toNat = 42
  · have t1 : (((s[0]'q0).toNat : Int) == 42) = true := by simp [h0, c42]
    by_cases hr : ∃ q : 1 < s.size, (s[1]'q).toNat = 42
    · obtain ⟨q1, hr⟩ := hr
      have t2 : (((s[1]'q1).toNat : Int) == 42) = true := by simp [hr]
      have q1' : (1 : Int) < s.size := by omega
      have HF : Hid (firstF s.data.toList = some (⟨full, true, false, 0⟩, 2)) := by
        rw [hl]; simp [firstF, c42, (hr1 q1).1, u8_of_toNat hr, Hid]
      clear hl hr1 h0 hsz c42 hr
      go_enter Tryz.func144, Tryz.ntmps144
      go_wp2_with fail
      refine (most_true _).mono ?_
      rintro e w1 ⟨rfl, hb⟩
      have HO := Lib.hid (zero_blk hb)
      have HB := Lib.hid (below_new hb)
      clear hb
      go_wp2_with (first | (refine wpList_store_row rfl 172 _ _ rfl _ rfl 172 _ HO.out (El.val ⟨full, true, false, 0⟩) rfl (by kernel_rfl) rfl rfl ?_; intro w2 hW2; have HW2 := Lib.hid hW2; clear hW2))
      refine bodyPost_ret (results_row_tmp rfl _ _ _ 172 _ (0, 0) _ rfl HW2.out.at_ Tryz.underlying172 rfl (by kernel_rfl)) rfl ⟨⟨full, true, false, 0⟩, 2, rfl, ?_, HB.out.trans (HW2.out.below (Nat.le_refl _))⟩
      rw [HF.out]; exact ⟨rfl, rfl, by omega⟩
    · have HF : Hid (firstF s.data.toList = some (⟨del full 47, true, false, 0⟩, 1)) := by
        have : ¬ r.head? = some 42 := by
          intro h
          cases r with
          | nil => cases h
          | cons d r =>
            simp at h hsz
            have q1 : 1 < s.size := by omega
            refine hr ⟨q1, ?_⟩
            have := (hr1 q1).1
            simp at this
            rw [← this, h]; rfl
        rw [hl]; simp [firstF, c42, this, Hid]
      have hcs : ¬ ((1 : Int) < s.size) ∨ ((1 : Int) < s.size ∧ ∃ q : 1 < s.size, (((s[1]'q).toNat : Int) == 42) = false) := by
        by_cases q1 : 1 < s.size
        · right
          refine ⟨by omega, q1, ?_⟩
          rw [beq_eq_false_iff_ne]
          intro h
          exact hr ⟨q1, by omega⟩
        · left; omega
      clear hl hr1 h0 hsz c42 hr
      rcases hcs with h | ⟨h, h', h''⟩
      all_goals
        go_enter Tryz.func144, Tryz.ntmps144
        go_wp2_with fail
        refine (most_false _).mono ?_
        rintro e w1 ⟨rfl, hb⟩
        have HO := Lib.hid (zero_blk hb)
        have HB := Lib.hid (below_new hb)
        clear hb
        go_wp2_with (first | (refine wpList_store_row rfl 172 _ _ rfl _ rfl 172 _ HO.out (El.val ⟨del full 47, true, false, 0⟩) rfl (by kernel_rfl) rfl rfl ?_; intro w2 hW2; have HW2 := Lib.hid hW2; clear hW2))
        refine bodyPost_ret (results_row_tmp rfl _ _ _ 172 _ (0, 0) _ rfl HW2.out.at_ Tryz.underlying172 rfl (by kernel_rfl)) rfl ⟨⟨del full 47, true, false, 0⟩, 1, rfl, ?_, HB.out.trans (HW2.out.below (Nat.le_refl _))⟩
        rw [HF.out]; exact ⟨rfl, rfl, by omega⟩
  · have t1 : (((s[0]'q0).toNat : Int) == 42) = false := by rw [beq_eq_false_iff_ne]; omega
    by_cases c63 : c.toNat = 63
    · have t2 : (((s[0]'q0).toNat : Int) == 63) = true := by simp [h0, c63]
      have HF : Hid (firstF s.data.toList = some (⟨del full 47, false, false, 0⟩, 1)) := by
        rw [hl]; simp [firstF, c63, Hid]
      clear hl hr1 h0 hsz c42 c63
      go_enter Tryz.func144, Tryz.ntmps144
      go_wp2_with fail
      refine (most_false _).mono ?_
      rintro e w1 ⟨rfl, hb⟩
      have HO := Lib.hid (zero_blk hb)
      have HB := Lib.hid (below_new hb)
      clear hb
      go_wp2_with (first | (refine wpList_store_row rfl 172 _ _ rfl _ rfl 172 _ HO.out (El.val ⟨del full 47, false, false, 0⟩) rfl (by kernel_rfl) rfl rfl ?_; intro w2 hW2; have HW2 := Lib.hid hW2; clear hW2))
      refine bodyPost_ret (results_row_tmp rfl _ _ _ 172 _ (0, 0) _ rfl HW2.out.at_ Tryz.underlying172 rfl (by kernel_rfl)) rfl ⟨⟨del full 47, false, false, 0⟩, 1, rfl, ?_, HB.out.trans (HW2.out.below (Nat.le_refl _))⟩
      rw [HF.out]; exact ⟨rfl, rfl, by omega⟩
    · have t2 : (((s[0]'q0).toNat : Int) == 63) = false := by rw [beq_eq_false_iff_ne]; omega
      by_cases c91 : c.toNat = 91
      · have t3 : (((s[0]'q0).toNat : Int) == 91) = true := by simp [h0, c91]
        have HF : Hid (firstF s.data.toList = if classLen s.data.toList = 0 then none else some (⟨classSet s.data.toList, false, false, 0⟩, classLen s.data.toList)) := by
          rw [hl]; simp [firstF, c91, Hid]
        clear hl hr1 h0 hsz c42 c63 c91
        go_enter Tryz.func144, Tryz.ntmps144
        go_wp2_with fail
        refine (class_any s hs' h1 _).mono ?_
        rintro e w1 ⟨N, rfl, hN, hb⟩
        have HO := Lib.hid (zero_blk hb)
        have HB := Lib.hid (below_new hb)
        have HS1 : Hid (w.heap.size + 1 ≤ w1.heap.size) := by have := hb.size; simp at this; exact this
        have HN := Lib.hid hN
        clear hb hN
        generalize classLen s.data.toList = cl at *
        go_wp2_with (first | (refine wpList_store_row rfl 172 _ _ rfl _ rfl 172 _ ((hp_old (by have := HS1.out; omega)).trans HO.out) (El.val ⟨N, false, false, 0⟩) rfl (by kernel_rfl) rfl rfl ?_; intro w2 hW2; have HW2 := Lib.hid hW2; clear hW2))
        refine bodyPost_ret (results_row_tmp rfl _ _ _ 172 _ (0, 0) _ rfl HW2.out.at_ Tryz.underlying172 rfl (by kernel_rfl)) rfl ⟨⟨N, false, false, 0⟩, cl, rfl, ?_, (HB.out.alloc (by have := HS1.out; omega) _).trans (HW2.out.below (Nat.le_refl _))⟩
        rw [HF.out]
        by_cases h : cl = 0
        · rw [if_pos h]; exact h
        · rw [if_neg h]; exact ⟨by rw [HN.out h], rfl, h⟩
      · have t3 : (((s[0]'q0).toNat : Int) == 91) = false := by rw [beq_eq_false_iff_ne]; omega
        by_cases c92 : c.toNat = 92
        · have t4 : (((s[0]'q0).toNat : Int) == 92) = true := by simp [h0, c92]
          by_cases q1 : 1 < s.size
          · have HF : Hid (firstF s.data.toList = some (litEl (s[1]'q1).toNat, 2)) := by
              obtain ⟨r', hr'⟩ := (hr1 q1).2
              rw [hl, hr']; simp [firstF, c92, Hid]
            have q1' : ¬ ((s.size : Int) < 2) := by omega
            clear hl hr1 h0 hsz c42 c63 c91 c92
            have hb1 := (s[1]'q1).toNat_lt
            go_enter Tryz.func144, Tryz.ntmps144
            go_wp2_with fail
            refine (literal_any _ (by omega) (by omega) _).mono ?_
            rintro e w1 ⟨rfl, hb⟩
            have HO := Lib.hid (zero_blk hb)
            have HB := Lib.hid (below_new hb)
            clear hb
            go_wp2_with (first | (refine wpList_store_row rfl 172 _ _ rfl _ rfl 172 _ HO.out (El.val (litEl (s[1]'q1).toNat)) rfl (by kernel_rfl) rfl rfl ?_; intro w2 hW2; have HW2 := Lib.hid hW2; clear hW2))
            refine bodyPost_ret (results_row_tmp rfl _ _ _ 172 _ (0, 0) _ rfl HW2.out.at_ Tryz.underlying172 rfl (by kernel_rfl)) rfl ⟨(litEl (s[1]'q1).toNat), 2, rfl, ?_, HB.out.trans (HW2.out.below (Nat.le_refl _))⟩
            rw [HF.out]; exact ⟨rfl, rfl, by omega⟩
          · have HF : Hid (firstF s.data.toList = none) := by
              have : r = [] := by cases r with
                | nil => rfl
                | cons d r => simp at hsz; omega
              rw [hl, this]; simp [firstF, c92, Hid]
            have q1' : (s.size : Int) < 2 := by omega
            clear hl hr1 h0 hsz c42 c63 c91 c92
            have HO : Hid ((w.alloc (.cells #[.int .u64 0, .int .u64 0, .int .u64 0, .int .u64 0, .bool false, .bool false, .int .u8 0] 172)).heap[w.heap.size]? = some (.cells #[.int .u64 0, .int .u64 0, .int .u64 0, .int .u64 0, .bool false, .bool false, .int .u8 0] 172)) := hp_new rfl
            go_enter Tryz.func144, Tryz.ntmps144
            go_wp2_with (refine wpList_store_row rfl 172 _ _ rfl _ rfl 172 _ HO.out (.agg #[.int .u64 0, .int .u64 0, .int .u64 0, .int .u64 0, .bool false, .bool false, .int .u8 0]) rfl (by kernel_rfl) rfl rfl ?_; intro w2 hW2; have HW2 := Lib.hid hW2; clear hW2)
            refine bodyPost_ret (results_row_tmp rfl _ _ _ 172 _ (0, 0) _ rfl HW2.out.at_ Tryz.underlying172 rfl (by kernel_rfl)) rfl ⟨⟨0, false, false, 0⟩, 0, ?_, by rw [HF.out], ((Below.refl _ _).alloc (Nat.le_refl _) _).trans (HW2.out.below (Nat.le_refl _))⟩
            obtain ⟨h0, h1, h2, h3⟩ := wd_zero
            simp [Value.cells, h0, h1, h2, h3]
        · have t4 : (((s[0]'q0).toNat : Int) == 92) = false := by rw [beq_eq_false_iff_ne]; omega
          have HF : Hid (firstF s.data.toList = some (litEl (s[0]'q0).toNat, 1)) := by
            rw [hl, h0]; simp [firstF, c42, c63, c91, c92, Hid]
          clear hl hr1 h0 hsz c42 c63 c91 c92
          have hb1 := (s[0]'q0).toNat_lt
          go_enter Tryz.func144, Tryz.ntmps144
          go_wp2_with fail
          refine (literal_any _ (by omega) (by omega) _).mono ?_
          rintro e w1 ⟨rfl, hb⟩
          have HO := Lib.hid (zero_blk hb)
          have HB := Lib.hid (below_new hb)
          clear hb
          go_wp2_with (first | (refine wpList_store_row rfl 172 _ _ rfl _ rfl 172 _ HO.out (El.val (litEl (s[0]'q0).toNat)) rfl (by kernel_rfl) rfl rfl ?_; intro w2 hW2; have HW2 := Lib.hid hW2; clear hW2))
          refine bodyPost_ret (results_row_tmp rfl _ _ _ 172 _ (0, 0) _ rfl HW2.out.at_ Tryz.underlying172 rfl (by kernel_rfl)) rfl ⟨(litEl (s[0]'q0).toNat), 1, rfl, ?_, HB.out.trans (HW2.out.below (Nat.le_refl _))⟩
          rw [HF.out]; exact ⟨rfl, rfl, by omega⟩

end Go.Proofs.YtghahghbahcpfaaGreatDoor.G6
/- The walks over package glob's parser: parse, Valid. -/
namespace Go.Proofs.YtghahghbahcpfaaGreatDoor.G6
open Go.RowKit
open Bs

/-- the elements of a pattern -/
def parseF : Nat → List UInt8 → Option (List El)
  | 0, _ => none
  | f + 1, l => if l = [] then some [] else match firstF l with
    | none => none
    | some (E, n) => (parseF f (l.drop n)).map (E :: ·)

def els (l : List UInt8) : Option (List El) := parseF (l.length + 1) l

def ParsePost (l : List UInt8) (w : World) (e : Ending) (w' : World) : Prop :=
  Below w.heap.size w w' ∧
  (if 4096 < l.length then e = .returned (.tuple #[.slice none 0 0, .int .i64 3])
   else match els l with
    | none => e = .returned (.tuple #[.slice none 0 0, .int .i64 5])
    | some L => ∃ v, e = .returned (.tuple #[v, .int .i64 0]) ∧ w'.ownsRow w.heap.size 172 7 v L.length (L.flatMap El.cells) ∧ L.length ≤ l.length)

def ParseRel (w : World) (R : Option (List El)) (N : Nat) (f : Nat) (t0 t4 : Value) (wr : World) : Prop :=
  ∃ (q : ByteArray) (L : List El), t0 = .string q ∧ q.size < f ∧ L.length + q.size ≤ N ∧ R = (parseF f q.data.toList).map (L ++ ·) ∧
    wr.ownsRow w.heap.size 172 7 t4 L.length (L.flatMap El.cells) ∧ Below w.heap.size w wr ∧ w.heap.size ≤ wr.heap.size

theorem Tryz.infoG45 : (Tryz.prog.info? 172).map (fun i => (i.zero, i.size, i.bytes)) = some (some (.agg #[.int .u64 0, .int .u64 0, .int .u64 0, .int .u64 0, .bool false, .bool false, .int .u8 0]), 7, 40) := by kernel_rfl

theorem flat_snoc (L : List El) (E : El) : (L ++ [E]).flatMap El.cells = L.flatMap El.cells ++ E.cells := by simp

theorem firstF_le {l : List UInt8} {E : El} {n : Nat} (h : firstF l = some (E, n)) : n ≤ l.length := by
  cases l with
  | nil => simp [firstF] at h
  | cons c r =>
    have hcl : classLen (c :: r) ≤ (c :: r).length := by
      unfold classLen
      split <;> omega
    simp only [firstF] at h
    by_cases h1 : c.toNat = 42
    · rw [if_pos h1] at h
      by_cases h2 : r.head? = some 42
      · rw [if_pos h2] at h
        cases r with
        | nil => cases h2
        | cons d r => simp at h; rw [← h.2]; simp
      · rw [if_neg h2] at h; simp at h; rw [← h.2]; simp
    · rw [if_neg h1] at h
      by_cases h2 : c.toNat = 63
      · rw [if_pos h2] at h; simp at h; rw [← h.2]; simp
      · rw [if_neg h2] at h
        by_cases h3 : c.toNat = 91
        · rw [if_pos h3] at h
          by_cases h4 : classLen (c :: r) = 0
          · rw [if_pos h4] at h; cases h
          · rw [if_neg h4] at h; simp at h; rw [← h.2]; exact hcl
        · rw [if_neg h3] at h
          by_cases h4 : c.toNat = 92
          · rw [if_pos h4] at h
            cases r with
            | nil => cases h
            | cons d r => simp at h; rw [← h.2]; simp
          · rw [if_neg h4] at h; simp at h; rw [← h.2]; simp

set_option maxRecDepth 100000 in
set_option maxHeartbeats 1600000 in
theorem parse_any (s : ByteArray) (hs : s.size ≤ maxLen) (w : World) :
    Calls Tryz.prog 110 #[.string s] w (ParsePost s.data.toList w) := by
  have hs' := hs
  unfold maxLen at hs
  have hsz := Lib.size_eq s
  obtain ⟨i0, hi, hz0, hz1, hz2⟩ := info_parts Tryz.infoG45
  by_cases hlong : 4096 < s.size
  · have HF : Hid (4096 < s.data.toList.length) := by rw [← hsz]; exact hlong
    have h2 : (4096 : Int) < s.size := by omega
    clear hsz hi hz0 hz1 hz2
    go_enter Tryz.func110, Tryz.ntmps110
    go_wp2
    go_ret2
    refine ⟨Below.refl _ _, ?_⟩
    rw [if_pos HF.out]; rfl
  · have HF : Hid (¬ 4096 < s.data.toList.length) := by rw [← hsz]; exact hlong
    have h2 : ¬ (4096 : Int) < s.size := by omega
    have HS := Lib.hid hsz
    have HI : Hid (Tryz.prog.info? 172 = some i0 ∧ i0.zero = some (.agg #[.int .u64 0, .int .u64 0, .int .u64 0, .int .u64 0, .bool false, .bool false, .int .u8 0]) ∧ i0.size = 7 ∧ i0.bytes = 40) := ⟨hi, hz0, hz1, hz2⟩
    clear hsz hi hz0 hz1 hz2
    go_enter Tryz.func110, Tryz.ntmps110
    go_wp2_with fail
    go_loopg [0, 4] (s.data.toList.length + 1) (ParseRel w (els s.data.toList) s.size)
    case atStart =>
      exact ⟨s, [], rfl, by rw [← HS.out]; omega, by simp, by simp [els], World.ownsRow_nil _ _ _ _, Below.refl _ _, Nat.le_refl _⟩
    case round =>
      obtain ⟨q, L, rfl, hq1, hq2, hR, hown, hbel, hsz⟩ := hrel
      obtain ⟨g, rfl⟩ : ∃ g, gk = g + 1 := ⟨gk - 1, by omega⟩
      have HR := Lib.hid hR
      have HOWN := Lib.hid hown
      have HBel := Lib.hid hbel
      clear hR hown hbel
      by_cases hq : q.size = 0
      · have hql : q.data.toList = [] := by
          have := Lib.size_eq q
          exact List.eq_nil_of_length_eq_zero (by omega)
        have e1 := (str_nil hql).1
        have HR1 : Hid (els s.data.toList = some L) := by
          rw [HR.out, hql]; simp [parseF, Hid]
        clear hql hq
        go_wp2
        go_ret2
        refine ⟨HBel.out, ?_⟩
        rw [if_neg HF.out, HR1.out]
        refine ⟨u4, rfl, HOWN.out, ?_⟩
        have := HS.out; omega
      · obtain ⟨c, r, hql⟩ : ∃ c r, q.data.toList = c :: r := by
          have := Lib.size_eq q
          cases h : q.data.toList with
          | nil => rw [h, List.length_nil] at this; omega
          | cons c r => exact ⟨c, r, rfl⟩
        have e1 := (str_cons hql).1
        have HR1 : Hid (els s.data.toList = ((match firstF q.data.toList with
            | none => none
            | some (E, n) => (parseF g (q.data.toList.drop n)).map (E :: ·) : Option (List El))).map (L ++ ·)) := by
          have : ¬ q.data.toList = [] := by rw [hql]; simp
          rw [HR.out, parseF, if_neg this]; rfl
        have hqm : 1 ≤ q.size := by omega
        have hqx : q.size ≤ maxLen := by unfold maxLen; omega
        have HQ := Lib.hid (Lib.size_eq q)
        clear hql HR hq
        go_wp2_with fail
        refine (first_any q hqx hqm wr).mono ?_
        rintro e w1 ⟨E, n, rfl, hE, hb⟩
        by_cases hn : n = 0
        · subst hn
          have HR2 : Hid (els s.data.toList = none) := by
            rw [HR1.out]
            cases hf : firstF q.data.toList with
            | none => rfl
            | some x => rw [hf] at hE; exact (hE.2.2 rfl).elim
          have HB := Lib.hid (HBel.out.trans (hb.mono hsz))
          have hsz1 : w.heap.size ≤ w1.heap.size := Nat.le_trans hsz hb.size
          clear hE hb
          go_wp2
          go_ret2
          refine ⟨HB.out.alloc hsz1 _, ?_⟩
          rw [if_neg HF.out, HR2.out]; rfl
        · have hf : firstF q.data.toList = some (E, n) := by
            cases hf : firstF q.data.toList with
            | none => rw [hf] at hE; exact (hn hE).elim
            | some x => rw [hf] at hE; rw [hE.1, hE.2.1]
          have hnl := firstF_le hf
          rw [← HQ.out] at hnl
          have HR2 : Hid (els s.data.toList = (parseF g (q.data.toList.drop n)).map ((L ++ [E]) ++ ·)) := by
            rw [HR1.out, hf]; simp [Option.map_map, Function.comp_def, Hid]
          have HB := Lib.hid (HBel.out.trans (hb.mono hsz))
          have HOWN1 : Hid (w1.ownsRow w.heap.size 172 7 u4 L.length (L.flatMap El.cells)) := ownsRow_below HOWN.out hb
          have hsz1 : w.heap.size ≤ w1.heap.size := Nat.le_trans hsz hb.size
          have hn0 : ((n : Int) == 0) = false := by simp; omega
          have hn1 : 1 ≤ n := by omega
          clear hE hb hf HR1 hn
          go_wp2_with (at_builtin; refine wpList_append_own _ rfl _ _ 164 rfl w.heap.size 172 i0 (.agg #[.int .u64 0, .int .u64 0, .int .u64 0, .int .u64 0, .bool false, .bool false, .int .u8 0]) 7 40 Tryz.underlying164 HI.out.1 HI.out.2.1 HI.out.2.2.1 HI.out.2.2.2 rfl (by decide) _ _ _ rfl ((HOWN1.out.alloc _).alloc _) ⟨w1.heap.size + 1, 0, none⟩ 1 1 E.cells rfl rfl (cells_newAt (by simp) E.cells 172 (0, 0)) (List.all_eq_true.1 (by rfl)) (by unfold maxLen; omega) (by omega) (by simp; omega) ?_; intro v' w2 hown2 hgrow2 _; have HO2 := Lib.hid hown2; have HG2 := Lib.hid hgrow2; clear hown2 hgrow2)
          go_roundg g
          case measure => omega
          case rel =>
            refine ⟨q.extract n q.size, L ++ [E], rfl, ?_, ?_, ?_, ?_, ?_, ?_⟩
            · simp; omega
            · simp; omega
            · rw [HR2.out, Lib.extract_to_end]
            · rw [flat_snoc, List.length_append]; exact HO2.out
            · refine (((HB.out.alloc hsz1 _).alloc (by simp; omega) _)).grown HG2.out (by simp; omega) ?_
              intro k hk
              exact (HOWN1.out.lt k hk).1
            · have := HG2.out.size; simp at this; omega

end Go.Proofs.YtghahghbahcpfaaGreatDoor.G6
