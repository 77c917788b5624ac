/- The walks over the reference's number, unit and below. -/
import Derived.Test.YtbhhjaflinfnfaaDoorRDur1
import Derived.Test.YtbhhjaflinfnfaaDoorDpar
namespace Go.Proofs.YtbhhjaflinfnfaaDoor
open Go.RowKit

theorem isDb_iff (c : UInt8) : isDb c = true ↔ 48 ≤ c.toNat ∧ c.toNat ≤ 57 := by
  have h : ∀ k : Fin 256, isDb (UInt8.ofNat k.val) = decide (48 ≤ k.val ∧ k.val ≤ 57) := by decide +kernel
  have := h ⟨c.toNat, c.toNat_lt⟩
  have e : UInt8.ofNat c.toNat = c := by simp
  simp only [e] at this
  rw [this, decide_eq_true_eq]
theorem drop_at (l : List UInt8) (a : Nat) (h : a < l.length) : l.drop a = l.getD a 0 :: l.drop (a + 1) := by
  rw [List.drop_eq_getElem_cons h]
  congr 1
  rw [List.getD, List.getElem?_eq_getElem h]; rfl

def NbRel (w : World) (l : List UInt8) (at0 : Nat) (f : Nat) (t1 t6 : Value) (wr : World) : Prop :=
  ∃ a n : Nat, t1 = .int .i64 (a : Nat) ∧ t6 = .int .i64 (n : Nat) ∧ a ≤ l.length ∧ f = l.length - a ∧ n ≤ 99999999 ∧ rNum (l.drop at0) 0 = rNum (l.drop a) n ∧
    at0 + ((l.drop at0).takeWhile isDb).length = a + ((l.drop a).takeWhile isDb).length ∧ wr = w
def NbPost (l : List UInt8) (at0 : Nat) (w : World) (e : Ending) (w' : World) : Prop :=
  e = .returned (.tuple #[.int .i64 (rNum (l.drop at0) 0 : Nat), .int .i64 (at0 + ((l.drop at0).takeWhile isDb).length : Nat)]) ∧ w' = w

set_option maxRecDepth 100000 in
set_option maxHeartbeats 1600000 in
theorem rnumber_any (s : ByteArray) (hs : s.size ≤ 1000) (at0 : Nat) (h0 : at0 ≤ s.size) (w : World) : Calls Tryd.prog 23 #[.string s, .int .i64 (at0 : Nat)] w (NbPost s.data.toList at0 w) := by
  have HS := Lib.hid (Lib.size_eq s)
  have H0 : Hid (at0 ≤ s.data.toList.length) := by have := HS.out; unfold Hid; omega
  go_enter Tryd.func23, Tryd.ntmps23
  go_wp2_with fail
  go_loopg [1, 6] (s.data.toList.length - at0) (NbRel w s.data.toList at0)
  case atStart => exact ⟨at0, 0, rfl, rfl, H0.out, rfl, Nat.zero_le _, rfl, rfl, rfl⟩
  case round =>
    obtain ⟨a, n, rfl, rfl, ha, rfl, hn, hnum, htw, rfl⟩ := hrel
    have HNU := Lib.hid hnum
    have HTW := Lib.hid htw
    rw [← HS.out] at ha
    clear hnum htw
    by_cases hlt : a < s.size
    · have hata := str_at (s := s) rfl a hlt
      have hc := isDb_iff (s.data.toList.getD a 0)
      have HD := Lib.hid (drop_at s.data.toList a (by rw [← HS.out]; exact hlt))
      have hii : (a : Int) < (s.size : Int) := by omega
      by_cases hd : isDb (s.data.toList.getD a 0) = true
      · have HNU2 : Hid (rNum (s.data.toList.drop at0) 0 = rNum (s.data.toList.drop (a + 1)) (min (10 * n + ((s.data.toList.getD a 0).toNat - 48)) 99999999)) := by
          unfold Hid; rw [HNU.out, HD.out, rNum, if_pos hd]
        have HTW2 : Hid (at0 + ((s.data.toList.drop at0).takeWhile isDb).length = (a + 1) + ((s.data.toList.drop (a + 1)).takeWhile isDb).length) := by
          unfold Hid; rw [HTW.out, HD.out, List.takeWhile_cons, if_pos hd, List.length_cons]; omega
        obtain ⟨hc1, hc2⟩ := hc.1 hd
        clear hc hd HD
        generalize s.data.toList.getD a 0 = c at *
        obtain ⟨d, hd, hd9⟩ : ∃ d : Nat, c.toNat = d + 48 ∧ d ≤ 9 := ⟨c.toNat - 48, by omega, by omega⟩
        rw [show c.toNat - 48 = d by omega] at HNU2
        have w8 : IntKind.u8.wrap ((c.toNat : Int) - 48) = (d : Int) := by
          show ((c.toNat : Int) - 48) % 256 = _
          omega
        have wI : IntKind.i64.wrap (d : Int) = (d : Int) := IntWalk.i64_in _ (by omega)
        have t1 : (48 : Int) ≤ (c.toNat : Int) := by omega
        have t2 : (c.toNat : Int) ≤ 57 := by omega
        have e1 : wrap64 (10 * (n : Int)) = 10 * (n : Int) := by unfold wrap64; omega
        have e2 : wrap64 (10 * (n : Int) + (d : Int)) = 10 * (n : Int) + (d : Int) := by unfold wrap64; omega
        clear hd hc1 hc2
        by_cases hbig : 99999999 < 10 * n + d
        · have tb : (99999999 : Int) < 10 * (n : Int) + (d : Int) := by omega
          have HM : Hid (min (10 * n + d) 99999999 = 99999999) := by unfold Hid; omega
          go_wp2_with fail
          go_roundg (s.data.toList.length - (a + 1))
          case measure => have := HS.out; omega
          case rel => exact ⟨a + 1, 99999999, by go_num, rfl, by have := HS.out; omega, rfl, Nat.le_refl _, by rw [HNU2.out, HM.out], HTW2.out, rfl⟩
        · have tb : ¬ (99999999 : Int) < 10 * (n : Int) + (d : Int) := by omega
          have HM : Hid (min (10 * n + d) 99999999 = 10 * n + d) := by unfold Hid; omega
          go_wp2_with fail
          go_roundg (s.data.toList.length - (a + 1))
          case measure => have := HS.out; omega
          case rel => exact ⟨a + 1, 10 * n + d, by go_num, by go_num, by have := HS.out; omega, rfl, by omega, by rw [HNU2.out, HM.out], HTW2.out, rfl⟩
      · have HNU2 : Hid (rNum (s.data.toList.drop at0) 0 = n) := by
          unfold Hid; rw [HNU.out, HD.out, rNum, if_neg hd]
        have HTW2 : Hid (at0 + ((s.data.toList.drop at0).takeWhile isDb).length = a) := by
          unfold Hid; rw [HTW.out, HD.out, List.takeWhile_cons, if_neg hd, List.length_nil]; omega
        have hcc : ¬ (48 ≤ (s.data.toList.getD a 0).toNat ∧ (s.data.toList.getD a 0).toNat ≤ 57) := fun k => hd (hc.2 k)
        clear hc hd HD
        generalize s.data.toList.getD a 0 = c at *
        by_cases h48 : 48 ≤ c.toNat
        · have t1 : (48 : Int) ≤ (c.toNat : Int) := by omega
          have t2 : ¬ (c.toNat : Int) ≤ 57 := by omega
          clear hcc h48
          go_wp2_with fail
          go_ret2
          unfold NbPost
          rw [HNU2.out, HTW2.out]
          exact ⟨rfl, rfl⟩
        · have t1 : ¬ (48 : Int) ≤ (c.toNat : Int) := by omega
          clear hcc h48
          go_wp2_with fail
          go_ret2
          unfold NbPost
          rw [HNU2.out, HTW2.out]
          exact ⟨rfl, rfl⟩
    · have hk2 : a = s.data.toList.length := by have := HS.out; omega
      have HNU2 : Hid (rNum (s.data.toList.drop at0) 0 = n) := by
        unfold Hid; rw [HNU.out, hk2, List.drop_length, rNum]
      have HTW2 : Hid (at0 + ((s.data.toList.drop at0).takeWhile isDb).length = a) := by
        unfold Hid; rw [HTW.out, hk2, List.drop_length]; rfl
      have hii : ¬ (a : Int) < (s.size : Int) := by omega
      clear hk2
      go_wp2_with fail
      go_ret2
      unfold NbPost
      rw [HNU2.out, HTW2.out]
      exact ⟨rfl, rfl⟩

set_option maxRecDepth 100000 in
set_option maxHeartbeats 1600000 in
theorem below_any (i : Nat) (hi : i < 5) (w : World) : Calls Tryd.prog 25 #[.int .i64 (i : Nat)] w fun e w' => e = .returned (.int .i64 (uMost i : Nat)) ∧ Below w.heap.size w w' := by
  have hi5 : i = 0 ∨ i = 1 ∨ i = 2 ∨ i = 3 ∨ i = 4 := by omega
  rcases hi5 with rfl | rfl | rfl | rfl | rfl <;> (
    go_enter Tryd.func25, Tryd.ntmps25
    go_wp2_with fail
    go_ret
    exact ⟨rfl, (Below.refl _ _).alloc (Nat.le_refl _) _⟩)

/-- the letter of a unit of one letter -/
def ub (i : Nat) : UInt8 := if i = 0 then 100 else if i = 1 then 104 else if i = 2 then 109 else 115
theorem uN_ub (i : Nat) (hi : i < 4) : uN i = ⟨#[ub i]⟩ := by
  have : i = 0 ∨ i = 1 ∨ i = 2 ∨ i = 3 := by omega
  rcases this with rfl | rfl | rfl | rfl <;> rfl
def unitZ : Option Nat → Int
  | none => -1
  | some u => (u : Int)
theorem rUnit_ms {t : List UInt8} (h : t.take 2 = [109, 115]) : rUnit t = some 4 := by unfold rUnit; rw [if_pos h]
theorem rUnit_of {t : List UInt8} {k : Nat} (hm : t.take 2 ≠ [109, 115]) (hk : k < 4) (hp : ∀ i, i < k → t.head? ≠ some (ub i)) (h : t.head? = some (ub k)) : rUnit t = some k := by
  have : k = 0 ∨ k = 1 ∨ k = 2 ∨ k = 3 := by omega
  unfold rUnit
  rw [if_neg hm]
  show (if t.head? = some (ub 0) then some 0 else if t.head? = some (ub 1) then some 1 else if t.head? = some (ub 2) then some 2 else if t.head? = some (ub 3) then some 3 else none) = _
  rcases this with rfl | rfl | rfl | rfl
  · rw [if_pos h]
  · rw [if_neg (hp 0 (by decide)), if_pos h]
  · rw [if_neg (hp 0 (by decide)), if_neg (hp 1 (by decide)), if_pos h]
  · rw [if_neg (hp 0 (by decide)), if_neg (hp 1 (by decide)), if_neg (hp 2 (by decide)), if_pos h]
theorem rUnit_no {t : List UInt8} (hm : t.take 2 ≠ [109, 115]) (hp : ∀ i, i < 4 → t.head? ≠ some (ub i)) : rUnit t = none := by
  unfold rUnit
  rw [if_neg hm]
  show (if t.head? = some (ub 0) then some 0 else if t.head? = some (ub 1) then some 1 else if t.head? = some (ub 2) then some 2 else if t.head? = some (ub 3) then some 3 else none) = _
  rw [if_neg (hp 0 (by decide)), if_neg (hp 1 (by decide)), if_neg (hp 2 (by decide)), if_neg (hp 3 (by decide))]

def UnRel (w : World) (t : List UInt8) (f : Nat) (t5 : Value) (wr : World) : Prop :=
  ∃ k : Nat, t5 = .int .i64 (k : Nat) ∧ k ≤ 4 ∧ f = 4 - k ∧ (∀ i, i < k → t.head? ≠ some (ub i)) ∧ Below w.heap.size w wr
def UnPost (t : List UInt8) (w : World) (e : Ending) (w' : World) : Prop := e = .returned (.int .i64 (unitZ (rUnit t))) ∧ Below w.heap.size w w'

theorem cmp_one {s : ByteArray} {a : Nat} (h : a < s.size) {k : Nat} (hk : k < 4) : ((s.extract a (a + 1)).toList == (uN k).toList) = decide ((s.data.toList.drop a).head? = some (ub k)) := by
  have e1 : (s.extract a (a + 1)).toList = [s.data.toList.getD a 0] := by
    rw [Lib.toList_data, Lib.extract_data, drop_at _ _ (by rw [← Lib.size_eq]; exact h), show a + 1 - a = 1 by omega]
    rfl
  have e2 : (uN k).toList = [ub k] := by rw [uN_ub k hk, Lib.toList_data]
  rw [e1, e2, drop_at _ _ (by rw [← Lib.size_eq]; exact h)]
  simp
  rfl

set_option maxRecDepth 100000 in
set_option maxHeartbeats 3200000 in
theorem runit_any (s : ByteArray) (hs : s.size ≤ 1000) (a : Nat) (h0 : a ≤ s.size) (w : World) : Calls Tryd.prog 24 #[.string s, .int .i64 (a : Nat)] w (UnPost (s.data.toList.drop a) w) := by
  have HS := Lib.hid (Lib.size_eq s)
  have q0 : wrap64 ((a : Int) + 1) = (a : Int) + 1 := by unfold wrap64; omega
  have q1 : IntKind.i64.wrap ((a : Int) + 1) = (a : Int) + 1 := IntWalk.i64_in _ (by omega)
  have q2 : (0 : Int) ≤ (a : Int) + 1 := by omega
  have q3 : ((a : Int) + 1).toNat = a + 1 := by omega
  have UN : Hid (∀ k, k < 4 → ∀ W, Calls Tryd.prog 27 #[.int .i64 (k : Nat)] W fun e w' => e = .returned (.string (uN k)) ∧ Below W.heap.size W w') := fun k hk W => unitName_any k (by omega) W
  have HTWO : Hid (a + 1 < s.size → (s.data.toList.drop a).take 2 = [s.data.toList.getD a 0, s.data.toList.getD (a + 1) 0]) := by
    intro h
    have := HS.out
    rw [drop_at _ _ (by omega), List.take_succ_cons, drop_at _ _ (by omega), List.take_succ_cons, List.take_zero]
  have HONE : Hid (¬ a + 1 < s.size → (s.data.toList.drop a).take 2 ≠ [109, 115]) := by
    intro h k
    have := HS.out
    have l2 := congrArg List.length k
    rw [List.length_take, List.length_drop] at l2
    simp at l2
    omega
  have tri : (a + 1 < s.size ∧ s.data.toList.getD a 0 = 109 ∧ s.data.toList.getD (a + 1) 0 = 115) ∨ ((s.data.toList.drop a).take 2 ≠ [109, 115] ∧ (¬ a + 1 < s.size ∨ (a + 1 < s.size ∧ s.data.toList.getD a 0 ≠ 109) ∨ (a + 1 < s.size ∧ s.data.toList.getD a 0 = 109 ∧ s.data.toList.getD (a + 1) 0 ≠ 115))) := by
    by_cases h1 : a + 1 < s.size
    · by_cases h2 : s.data.toList.getD a 0 = 109
      · by_cases h3 : s.data.toList.getD (a + 1) 0 = 115
        · exact .inl ⟨h1, h2, h3⟩
        · exact .inr ⟨by rw [HTWO.out h1]; intro k; injection k with _ k; injection k with k; exact h3 k, .inr (.inr ⟨h1, h2, h3⟩)⟩
      · exact .inr ⟨by rw [HTWO.out h1]; intro k; injection k with k; exact h2 k, .inr (.inl ⟨h1, h2⟩)⟩
    · exact .inr ⟨HONE.out h1, .inl h1⟩
  have ne8 : Hid (∀ (x y : UInt8), x ≠ y → ((x.toNat : Int) == (y.toNat : Int)) = false) := by
    intro x y h
    rw [beq_eq_false_iff_ne]
    intro k
    exact h (UInt8.toNat_inj.1 (by omega))
  go_enter Tryd.func24, Tryd.ntmps24
  rcases tri with ⟨h1, h2, h3⟩ | ⟨hm, tri⟩
  · have HV : Hid (rUnit (s.data.toList.drop a) = some 4) := rUnit_ms (by rw [HTWO.out h1, h2, h3])
    have a0 := str_at (s := s) rfl a (by omega)
    have a1 := str_at (s := s) rfl (a + 1) h1
    rw [h2] at a0
    rw [h3] at a1
    have hi1 : (a : Int) + 1 < (s.size : Int) := by omega
    have hi0 : (a : Int) < (s.size : Int) := by omega
    have hn0 : a < s.size := by omega
    clear h2 h3
    go_wp2_with fail
    go_ret
    exact ⟨by rw [HV.out]; rfl, Below.refl _ _⟩
  · have HM := Lib.hid hm
    clear hm
    rcases tri with h1 | ⟨h1, h2⟩ | ⟨h1, h2, h3⟩
    case' inr.inl =>
      have hi1 : ¬ (a : Int) + 1 < (s.size : Int) := by omega
      go_wp2_with fail
    case' inr.inr.inl =>
      have a0 := str_at (s := s) rfl a (by omega)
      have hi1 : (a : Int) + 1 < (s.size : Int) := by omega
      have hi0 : (a : Int) < (s.size : Int) := by omega
      have hn0 : a < s.size := by omega
      have tb : (((s.data.toList.getD a 0).toNat : Int) == 109) = false := ne8.out _ 109 h2
      clear h2
      generalize s.data.toList.getD a 0 = c at *
      go_wp2_with fail
    case' inr.inr.inr =>
      have a0 := str_at (s := s) rfl a (by omega)
      have a1 := str_at (s := s) rfl (a + 1) h1
      have hi1 : (a : Int) + 1 < (s.size : Int) := by omega
      have hi0 : (a : Int) < (s.size : Int) := by omega
      have hn0 : a < s.size := by omega
      have tb : (((s.data.toList.getD (a + 1) 0).toNat : Int) == 115) = false := ne8.out _ 115 h3
      rw [h2] at a0
      clear h2 h3
      generalize s.data.toList.getD (a + 1) 0 = c at *
      go_wp2_with fail
    all_goals (
      go_loopg [5] 4 (UnRel w (s.data.toList.drop a))
      case atStart => exact ⟨0, rfl, by omega, rfl, fun i hi => absurd hi (Nat.not_lt_zero _), Below.refl _ _⟩
      case round =>
        obtain ⟨k, rfl, hk, rfl, hp, hb⟩ := hrel
        have HP := Lib.hid hp
        have HB := Lib.hid hb
        clear hp hb
        by_cases hk4 : k < 4
        · have hk4z : (k : Int) < 4 := by omega
          have hb0 := HB.out
          have wk : wrap64 ((k : Int) + 1) = (k : Int) + 1 := by unfold wrap64; omega
          by_cases hlt : a < s.size
          · have hltz : decide ((a : Int) < (s.size : Int)) = true := decide_eq_true (by omega)
            have HC := Lib.hid (cmp_one hlt hk4)
            have UNk : Hid (∀ W, Below w.heap.size w W → Calls Tryd.prog 27 #[.int .i64 (k : Nat)] W fun e w' => e = .returned (.string (uN k)) ∧ Below w.heap.size w w') := fun W hW =>
              (UN.out k hk4 W).mono (by rintro e w' ⟨rfl, hb⟩; exact ⟨rfl, hW.trans (hb.mono hW.size)⟩)
            have q5 : (a : Int) + 1 ≤ (s.size : Int) := by omega
            have q6 : (a : Int) ≤ (a : Int) + 1 := by omega
            have q7 : (a : Int) ≤ (s.size : Int) := by omega
            have q8 : (a : Int) < (s.size : Int) := by omega
            have q9 : a + 1 ≤ s.size := by omega
            cases hq : decide ((s.data.toList.drop a).head? = some (ub k)) with
            | true =>
              have ts : ((s.extract a (a + 1)).toList == (uN k).toList) = true := by rw [HC.out, hq]
              have HV : Hid (rUnit (s.data.toList.drop a) = some k) := rUnit_of HM.out hk4 HP.out (of_decide_eq_true hq)
              clear hq HC
              generalize uN k = un at *
              go_wp2_with fail
              go_region_held3 (fun W' : World => Below w.heap.size w W') (first | exact hb0 | exact hb0.drew | assumption | go_keep) (first | (go_at_call 27; with_reducible refine (UNk.out _ (by assumption)).mono ?_; rintro e wA ⟨rfl, hbA⟩))
              go_wp2_with fail
              go_ret
              exact ⟨by rw [HV.out]; rfl, by assumption⟩
            | false =>
              have ts : ((s.extract a (a + 1)).toList == (uN k).toList) = false := by rw [HC.out, hq]
              have HV : Hid (∀ i, i < k + 1 → (s.data.toList.drop a).head? ≠ some (ub i)) := by
                intro i hi
                by_cases e : i = k
                · subst e; exact of_decide_eq_false hq
                · exact HP.out i (by omega)
              clear hq HC
              generalize uN k = un at *
              go_wp2_with fail
              go_region_held3 (fun W' : World => Below w.heap.size w W') (first | exact hb0 | exact hb0.drew | assumption | go_keep) (first | (go_at_call 27; with_reducible refine (UNk.out _ (by assumption)).mono ?_; rintro e wA ⟨rfl, hbA⟩))
              go_wp2_with fail
              go_roundg (4 - (k + 1))
              case measure => omega
              case rel => exact ⟨k + 1, by go_num, by omega, rfl, HV.out, by assumption⟩
          · first
            | (exfalso; omega)
            | (
              have HE : Hid (∀ x, (s.data.toList.drop a).head? ≠ some x) := by
                intro x hx
                rw [List.drop_eq_nil_of_le (by have := HS.out; omega)] at hx
                cases hx
              obtain rfl : a = s.size := by omega
              clear q0 q1 q2 q3 hlt
              have hltz : decide ((s.size : Int) < (s.size : Int)) = false := decide_eq_false (by omega)
              go_wp2_with fail
              go_quiet (fail)
              go_wp2_with fail
              go_roundg (4 - (k + 1))
              case measure => omega
              case rel => exact ⟨k + 1, by go_num, by omega, rfl, fun i _ => HE.out _, HB.out.trans ⟨rfl, rfl, rfl, Nat.le_refl _, fun _ _ => rfl⟩⟩)
        · obtain rfl : k = 4 := by omega
          have HV : Hid (rUnit (s.data.toList.drop a) = none) := rUnit_no HM.out HP.out
          go_wp2_with fail
          go_ret
          exact ⟨by rw [HV.out]; rfl, HB.out⟩)
end Go.Proofs.YtbhhjaflinfnfaaDoor
