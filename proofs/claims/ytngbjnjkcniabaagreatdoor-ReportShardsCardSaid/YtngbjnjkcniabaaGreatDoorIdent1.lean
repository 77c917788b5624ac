/- The walks over the names of identifiers, the program's and the reference's. -/
import Derived.Test.YtngbjnjkcniabaaGreatDoorRows
import Derived.Test.YtngbjnjkcniabaaGreatDoorPieces
namespace Go.Proofs.YtngbjnjkcniabaaGreatDoor
open Go.RowKit

def digF (c : UInt8) : Bool := decide (48 ≤ c.toNat) && decide (c.toNat ≤ 57)

set_option maxRecDepth 100000 in
theorem digit_any (c : UInt8) (w : World) : Calls Tryz.prog 98 #[.int .u8 (c.toNat : Nat)] w fun e w' => e = .returned (.bool (digF c)) ∧ w' = w := by
  unfold digF
  go_enter Tryz.func98, Tryz.ntmps98
  generalize c.toNat = n
  by_cases h1 : 48 ≤ n
  · have t1 : (48 : Int) ≤ (n : Int) := by omega
    go_wp2_with fail
    go_ret
    exact ⟨ret_bool (by rw [Bool.eq_iff_iff]; simp [h1]; try omega), rfl⟩
  · have t1 : ¬ (48 : Int) ≤ (n : Int) := by omega
    go_wp2_with fail
    go_ret
    exact ⟨ret_bool (by first | (simp; done) | (simp [h1]; done)), rfl⟩

set_option maxRecDepth 100000 in
theorem letter_any (c : UInt8) (w : World) : Calls Tryz.prog 120 #[.int .u8 (c.toNat : Nat)] w fun e w' => e = .returned (.bool (letF c)) ∧ w' = w := by
  unfold letF
  go_enter Tryz.func120, Tryz.ntmps120
  generalize c.toNat = n
  by_cases h1 : 97 ≤ n
  · have t1 : (97 : Int) ≤ (n : Int) := by omega
    by_cases h2 : n ≤ 122
    · have t2 : (n : Int) ≤ (122 : Int) := by omega
      go_wp2_with fail
      go_ret
      exact ⟨ret_bool (by simp [h1, h2]), rfl⟩
    · have t2 : decide ((n : Int) ≤ (122 : Int)) = false := by simp; omega
      have t3 : (48 : Int) ≤ (n : Int) := by omega
      go_wp2_with fail
      go_ret
      exact ⟨ret_bool (by rw [Bool.eq_iff_iff]; simp; omega), rfl⟩
  · have t1 : decide ((97 : Int) ≤ (n : Int)) = false := by simp; omega
    by_cases h3 : 48 ≤ n
    · have t3 : (48 : Int) ≤ (n : Int) := by omega
      go_wp2_with fail
      go_ret
      exact ⟨ret_bool (by rw [Bool.eq_iff_iff]; simp; omega), rfl⟩
    · have t3 : decide ((48 : Int) ≤ (n : Int)) = false := by simp; omega
      go_wp2_with fail
      go_ret
      exact ⟨ret_bool (by rw [Bool.eq_iff_iff]; simp; omega), rfl⟩

/-- the byte c at index i of a name -/
def okF (i : Nat) (c : UInt8) : Bool := letF c || (decide (0 < i) && punF c)

set_option maxRecDepth 100000 in
set_option maxHeartbeats 800000 in
theorem name1_any (i : Nat) (c : UInt8) (w : World) : Calls Tryz.prog 119 #[.int .i64 (i : Nat), .int .u8 (c.toNat : Nat)] w fun e w' => e = .returned (.bool (okF i c)) ∧ w' = w := by
  go_enter Tryz.func119, Tryz.ntmps119
  have HO : Hid (okF i c = (((decide (97 ≤ c.toNat) && decide (c.toNat ≤ 122)) || digF c) || (decide (0 < i) && (decide (c.toNat = 95) || decide (c.toNat = 45) || decide (c.toNat = 46))))) := rfl
  by_cases h1 : 97 ≤ c.toNat
  · have t1 : (97 : Int) ≤ (c.toNat : Int) := by omega
    by_cases h2 : c.toNat ≤ 122
    · have t2 : (c.toNat : Int) ≤ (122 : Int) := by omega
      have HO : Hid (okF i c = true) := by unfold Hid; rw [HO.out]; simp [h1, h2]
      clear h1 h2
      go_wp2_with fail
      go_ret
      exact ⟨by rw [HO.out]; rfl, rfl⟩
    · have t2 : decide ((c.toNat : Int) ≤ (122 : Int)) = false := by simp; omega
      have HO : Hid (okF i c = false) := by
        unfold Hid; rw [HO.out]; unfold digF; rw [Bool.eq_false_iff]; simp; omega
      have hd : digF c = false := by unfold digF; rw [Bool.eq_false_iff]; simp; omega
      have e1 : ((c.toNat : Int) == 95) = false := by simp; omega
      have e2 : ((c.toNat : Int) == 45) = false := by simp; omega
      have e3 : ((c.toNat : Int) == 46) = false := by simp; omega
      by_cases hi : 0 < i
      · have ti : (0 : Int) < (i : Int) := by omega
        clear h1 h2
        go_wp2_with fail
        refine (digit_any c w).mono ?_
        rintro e w1 ⟨rfl, rfl⟩
        rw [hd]
        go_wp2_with fail
        go_ret
        exact ⟨by rw [HO.out]; rfl, rfl⟩
      · obtain rfl : i = 0 := by omega
        clear h1 h2 hi
        go_wp2_with fail
        refine (digit_any c w).mono ?_
        rintro e w1 ⟨rfl, rfl⟩
        rw [hd]
        go_wp2_with fail
        go_ret
        exact ⟨by rw [HO.out]; rfl, rfl⟩
  · have t1 : decide ((97 : Int) ≤ (c.toNat : Int)) = false := by simp; omega
    by_cases hd : digF c = true
    · have HO : Hid (okF i c = true) := by unfold Hid; rw [HO.out, hd]; simp
      clear h1
      go_wp2_with fail
      refine (digit_any c w).mono ?_
      rintro e w1 ⟨rfl, rfl⟩
      rw [hd]
      go_wp2_with fail
      go_ret
      exact ⟨by rw [HO.out]; rfl, rfl⟩
    · rw [Bool.not_eq_true] at hd
      have HO : Hid (okF i c = (decide (0 < i) && (decide (c.toNat = 95) || decide (c.toNat = 45) || decide (c.toNat = 46)))) := by unfold Hid; rw [HO.out, hd]; simp [h1]
      clear h1
      by_cases hi : 0 < i
      · have ti : (0 : Int) < (i : Int) := by omega
        by_cases e1 : c.toNat = 95
        · have f1 : ((c.toNat : Int) == 95) = true := by simp; omega
          have HO : Hid (okF i c = true) := by unfold Hid; rw [HO.out]; simp [hi, e1]
          clear e1
          go_wp2_with fail
          refine (digit_any c w).mono ?_
          rintro e w1 ⟨rfl, rfl⟩
          rw [hd]
          go_wp2_with fail
          go_ret
          exact ⟨by rw [HO.out]; rfl, rfl⟩
        · have f1 : ((c.toNat : Int) == 95) = false := by simp; omega
          by_cases e2 : c.toNat = 45
          · have f2 : ((c.toNat : Int) == 45) = true := by simp; omega
            have HO : Hid (okF i c = true) := by unfold Hid; rw [HO.out]; simp [hi, e2]
            clear e1 e2
            go_wp2_with fail
            refine (digit_any c w).mono ?_
            rintro e w1 ⟨rfl, rfl⟩
            rw [hd]
            go_wp2_with fail
            go_ret
            exact ⟨by rw [HO.out]; rfl, rfl⟩
          · have f2 : ((c.toNat : Int) == 45) = false := by simp; omega
            have HO : Hid (okF i c = ((c.toNat : Int) == 46)) := by
              unfold Hid; rw [HO.out]; rw [Bool.eq_iff_iff]; simp [hi, e1, e2]; omega
            clear e1 e2
            go_wp2_with fail
            refine (digit_any c w).mono ?_
            rintro e w1 ⟨rfl, rfl⟩
            rw [hd]
            go_wp2_with fail
            go_ret
            exact ⟨by rw [HO.out]; rfl, rfl⟩
      · obtain rfl : i = 0 := by omega
        have HO : Hid (okF 0 c = false) := by unfold Hid; rw [HO.out]; simp
        clear hi
        go_wp2_with fail
        refine (digit_any c w).mono ?_
        rintro e w1 ⟨rfl, rfl⟩
        rw [hd]
        go_wp2_with fail
        go_ret
        exact ⟨by rw [HO.out]; rfl, rfl⟩
end Go.Proofs.YtngbjnjkcniabaaGreatDoor
