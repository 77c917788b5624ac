/- The walks over the laws Valid and Matches. -/
import Derived.Test.YtnmbabaihfdljaaLives
import Derived.Test.YtnmbabaihfdljaaPlain2
namespace Go.Proofs.Ytnmbabaihfdljaa
open Go.RowKit
open Bs

/-- a law's end: it returns true, and what was there before stands -/
abbrev LawPost (w : World) (e : Ending) (w' : World) : Prop := e = .returned (.bool true) ∧ Below w.heap.size w w'

set_option maxRecDepth 100000 in
set_option maxHeartbeats 1600000 in
theorem valid_law (a0 : ByteArray) (w0 : a0.size ≤ maxLen) (w : World) : Calls Try.prog 3 #[.string a0] w (LawPost w) := by
  go_enter Try.func3, Try.ntmps3
  by_cases hl : 5000 < a0.size
  · go_wp2_with fail
    refine (lives_any w).mono ?_
    rintro e w1 ⟨rfl, hb⟩
    have HB := Lib.hid hb
    clear hb
    go_wp2
    go_ret
    exact ⟨rfl, HB.out⟩
  · go_wp2_with fail
    refine (valid_any a0 w0 w).mono ?_
    rintro e w1 ⟨rfl, hb⟩
    have HB := Lib.hid hb
    clear hb
    go_wp2_with fail
    refine (rvalid_any a0 w0 w1).mono ?_
    rintro e w2 ⟨rfl, hb⟩
    rw [valid_same]
    have HB := Lib.hid (HB.out.trans (hb.mono HB.out.size))
    clear hb
    have ht : (((rvalidF a0.data.toList : Nat) : Int) == ((rvalidF a0.data.toList : Nat) : Int)) = true := by simp
    go_wp2_with fail
    refine (lives_any w2).mono ?_
    rintro e w3 ⟨rfl, hb⟩
    have HB := Lib.hid (HB.out.trans (hb.mono HB.out.size))
    clear hb
    go_wp2
    go_ret
    exact ⟨rfl, HB.out⟩

set_option maxRecDepth 100000 in
set_option maxHeartbeats 1600000 in
theorem matches_law (a0 a1 : ByteArray) (w0 : a0.size ≤ maxLen) (_w1 : a1.size ≤ maxLen) (w : World) : Calls Try.prog 4 #[.string a0, .string a1] w (LawPost w) := by
  go_enter Try.func4, Try.ntmps4
  by_cases hl : 300 < a0.size
  · go_wp2_with fail
    refine (lives_any w).mono ?_
    rintro e w1 ⟨rfl, hb⟩
    have HB := Lib.hid hb
    clear hb
    go_wp2
    go_ret
    exact ⟨rfl, HB.out⟩
  · by_cases hl2 : 300 < a1.size
    · go_wp2_with fail
      refine (lives_any w).mono ?_
      rintro e w1 ⟨rfl, hb⟩
      have HB := Lib.hid hb
      clear hb
      go_wp2
      go_ret
      exact ⟨rfl, HB.out⟩
    · go_wp2_with fail
      refine (gmatch_any a0 a1 w0 (by omega) w).mono ?_
      rintro e w1 ⟨rfl, hb⟩
      have HB := Lib.hid hb
      clear hb
      go_wp2_with fail
      refine (rmatch_any a0 a1 w0 (by omega) w1).mono ?_
      rintro e w2 ⟨rfl, hb⟩
      rw [gmatch_same]
      have HB := Lib.hid (HB.out.trans (hb.mono HB.out.size))
      clear hb
      have ht : (rmatchF a0.data.toList a1.data.toList == rmatchF a0.data.toList a1.data.toList) = true := by simp
      go_wp2_with fail
      refine (lives_any w2).mono ?_
      rintro e w3 ⟨rfl, hb⟩
      have HB := Lib.hid (HB.out.trans (hb.mono HB.out.size))
      clear hb
      go_wp2
      go_ret
      exact ⟨rfl, HB.out⟩
end Go.Proofs.Ytnmbabaihfdljaa
