/- The walks over the reference's digit and run. -/
import Derived.Test.YtngbjnjkcniabaaGreatDoorNw1
namespace Go.Proofs.YtngbjnjkcniabaaGreatDoor
open Go.RowKit

set_option maxRecDepth 100000 in
theorem rdigit_any (c : UInt8) (w : World) : Calls Tryz.prog 85 #[.int .u8 (c.toNat : Nat)] w fun e w' => e = .returned (.bool (digF c)) ∧ w' = w := by
  have HD : Hid (digF c = (decide (48 ≤ c.toNat) && decide (c.toNat ≤ 57))) := rfl
  go_enter Tryz.func85, Tryz.ntmps85
  generalize c.toNat = n at *
  by_cases h1 : 48 ≤ n
  · by_cases h2 : n ≤ 57
    · have t1 : (48 : Int) ≤ (n : Int) := by omega
      have t2 : (n : Int) ≤ 57 := by omega
      have HD2 : Hid (digF c = true) := by unfold Hid; rw [HD.out]; simp [h1, h2]
      clear HD
      go_wp2_with fail
      go_ret
      exact ⟨by rw [HD2.out]; rfl, rfl⟩
    · have t1 : (48 : Int) ≤ (n : Int) := by omega
      have t2 : decide ((n : Int) ≤ 57) = false := by simp; omega
      have HD2 : Hid (digF c = false) := by unfold Hid; rw [HD.out]; simp; omega
      clear HD
      go_wp2_with fail
      go_ret
      exact ⟨by rw [HD2.out]; rfl, rfl⟩
  · have t1 : decide ((48 : Int) ≤ (n : Int)) = false := by simp; omega
    have HD2 : Hid (digF c = false) := by unfold Hid; rw [HD.out]; simp; omega
    clear HD
    go_wp2_with fail
    go_ret
    exact ⟨by rw [HD2.out]; rfl, rfl⟩

set_option maxRecDepth 100000 in
set_option maxHeartbeats 1600000 in
theorem rrun_any (s : ByteArray) (i m : Nat) (hm : i + runN (s.data.toList.drop i) = m) (hi : i ≤ s.size) (hs : s.size ≤ 9223372036854775807) (w : World) : Calls Tryz.prog 86 #[.string s, .int .i64 (i : Nat)] w fun e w' => e = .returned (.int .i64 (m : Nat)) ∧ w' = w := by
  have HM := Lib.hid hm
  clear hm
  have HS := Lib.hid (Lib.size_eq s)
  go_enter Tryz.func86, Tryz.ntmps86
  go_wp2_with fail
  go_loopg [1] (s.data.toList.length - i) (RunRel w s.data.toList i)
  case atStart => exact ⟨0, rfl, by rw [← HS.out]; omega, rfl, fun j hj => by omega, rfl⟩
  case round =>
    obtain ⟨k, rfl, hk, rfl, hall, rfl⟩ := hrel
    have HALL := Lib.hid hall
    rw [← HS.out] at hk
    have HL : Hid ((s.data.toList.drop i).length = s.size - i) := by unfold Hid; rw [List.length_drop, ← HS.out]
    clear hall
    generalize hn : i + k = n at *
    have HN := Lib.hid hn
    clear hn
    by_cases hlt : n < s.size
    · have hat := str_at (s := s) rfl n hlt
      have hii : (n : Int) < (s.size : Int) := by omega
      generalize hc : s.data.toList.getD n 0 = c at hat
      have HC : Hid ((s.data.toList.drop i).getD k 0 = c) := by unfold Hid; rw [getD_drop, HN.out, hc]
      clear hc
      go_wp2_with fail
      refine (rdigit_any _ _).mono ?_
      rintro e w1 ⟨rfl, rfl⟩
      cases hd : digF c with
      | true =>
        have HD : Hid (digF ((s.data.toList.drop i).getD k 0) = true) := by unfold Hid; rw [HC.out]; exact hd
        clear hd
        go_wp2_with fail
        go_roundg (s.data.toList.length - (n + 1))
        case measure => have := HS.out; omega
        case rel => exact ⟨k + 1, by have := HN.out; rw [← Nat.add_assoc, this]; go_num, by have := HS.out; have := HN.out; omega, by have := HN.out; rw [← Nat.add_assoc, this], fun j hj => by
          by_cases h : j = k
          · subst h; exact HD.out
          · exact HALL.out j (by omega), rfl⟩
      | false =>
        have HR : Hid (m = n) := by
          unfold Hid
          rw [← HM.out, run_stop _ k (by rw [HL.out]; have := HN.out; omega) HALL.out (.inr (by rw [HC.out]; exact hd))]
          exact HN.out
        clear hd
        go_wp2_with fail
        go_ret
        exact ⟨by rw [HR.out]; rfl, rfl⟩
    · have hii : ¬ (n : Int) < (s.size : Int) := by omega
      have HR : Hid (m = n) := by
        unfold Hid
        rw [← HM.out, run_stop _ k (by rw [HL.out]; have := HN.out; omega) HALL.out (.inl (by rw [HL.out]; have := HN.out; omega))]
        exact HN.out
      go_wp2_with fail
      go_ret
      exact ⟨by rw [HR.out]; rfl, rfl⟩

end Go.Proofs.YtngbjnjkcniabaaGreatDoor
