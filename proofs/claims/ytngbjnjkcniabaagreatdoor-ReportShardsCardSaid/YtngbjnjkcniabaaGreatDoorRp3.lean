/- The walks over report.digits, words and result. -/
import Derived.Test.YtngbjnjkcniabaaGreatDoorRp1
import Derived.Test.YtngbjnjkcniabaaGreatDoorRep1
import Derived.StillTailTactics
import Derived.BigQuiet
namespace Go.Proofs.YtngbjnjkcniabaaGreatDoor
open Go.RowKit

theorem empty_is (s : ByteArray) : s.toList.isEmpty = decide (s.data.toList = []) := by
  rw [Lib.toList_data]
  cases h : s.data.toList with
  | nil => simp
  | cons a l => simp

set_option maxRecDepth 100000 in
set_option maxHeartbeats 800000 in
theorem digc_gives (r : Nat) (W : World) : FnGives Tryz.prog 73 #[] #[encR r] (.bool (notDig r)) W := by
  show Calls Tryz.prog 73 #[.int .i32 (r : Nat)] W _
  by_cases h1 : r < 48
  · have hi : ((r : Nat) : Int) < 48 := by omega
    have HV : Hid (notDig r = true) := by unfold Hid notDig; rw [decide_eq_true h1, Bool.true_or]
    go_enter Tryz.func73, Tryz.ntmps73
    go_wp2_with fail
    go_ret
    exact ⟨by rw [HV.out]; rfl, 0, rfl⟩
  · have hi : decide (((r : Nat) : Int) < 48) = false := decide_eq_false (by omega)
    have hin : decide (r < 48) = false := decide_eq_false h1
    by_cases h2 : 57 < r
    · have hj : (57 : Int) < ((r : Nat) : Int) := by omega
      have HV : Hid (notDig r = true) := by unfold Hid notDig; rw [decide_eq_true h2, Bool.or_true]
      clear h1
      go_enter Tryz.func73, Tryz.ntmps73
      go_wp2_with fail
      go_ret
      exact ⟨by rw [HV.out]; rfl, 0, rfl⟩
    · have hj : decide ((57 : Int) < ((r : Nat) : Int)) = false := decide_eq_false (by omega)
      have hjn : decide (57 < r) = false := decide_eq_false h2
      have HV : Hid (notDig r = false) := by unfold Hid notDig; rw [hin, hjn]; rfl
      clear h1 h2
      go_enter Tryz.func73, Tryz.ntmps73
      go_wp2_with fail
      go_ret
      exact ⟨by rw [HV.out]; rfl, 0, rfl⟩

set_option maxRecDepth 100000 in
set_option maxHeartbeats 1600000 in
theorem digits_any (s : ByteArray) (w : World) : Calls Tryz.prog 50 #[.string s] w fun e w' => e = .returned (.bool (digB s.data.toList)) ∧ Below w.heap.size w w' := by
  have CF := fun W => Lib.hid (Tryz.strings_ContainsFunc 73 #[] (enters_of Tryz.func73 (by kernel_rfl) rfl) notDig s W (fun W' x _ => digc_gives x W'))
  simp only [idx_all] at CF
  have HSZ := Lib.hid (Lib.size_eq s)
  have hei := empty_is s
  have het : (s.toList == ByteArray.toList ⟨#[]⟩) = s.toList.isEmpty := by
    rw [hei, Bool.eq_iff_iff, beq_iff_eq, decide_eq_true_eq, Lib.toList_data, Lib.toList_data]
  by_cases h0 : s.data.toList = []
  · have HV : Hid (digB s.data.toList = false) := by unfold Hid; rw [h0]; rfl
    rw [decide_eq_true h0] at hei
    rw [hei] at het
    clear h0 CF
    go_enter Tryz.func50, Tryz.ntmps50
    go_wp2_with fail
    go_ret
    exact ⟨by rw [HV.out]; rfl, Below.refl _ _⟩
  · rw [decide_eq_false h0] at hei
    rw [hei] at het
    have hpos : 0 < s.size := by rw [Lib.size_eq]; exact List.length_pos_iff.2 h0
    have h00 : s.data.toList.isEmpty = false := by cases h : s.data.toList with
      | nil => exact absurd h h0
      | cons a l => rfl
    have hz : s.data.toList.headD 0 = s[0]'hpos := by
      have hl : 0 < s.data.toList.length := by rw [← Lib.size_eq]; exact hpos
      have e : s.data.toList[0] = s[0]'hpos := by rw [Array.getElem_toList]; rfl
      rw [← e]
      generalize s.data.toList = l at *
      cases l with
      | nil => exact absurd hl (Nat.lt_irrefl _)
      | cons a l => rfl
    have C1 := CF w
    by_cases h12 : 1 < s.size ∧ s[0]'hpos = 48
    · obtain ⟨h1, h2⟩ := h12
      have hi : (1 : Int) < (s.size : Int) := by omega
      have hb : (((s[0]'hpos).toNat : Int) == 48) = true := by rw [h2]; rfl
      have HV : Hid (digB s.data.toList = false) := by
        unfold Hid digB
        rw [hz, h2, ← HSZ.out, decide_eq_true h1]
        simp
      clear CF C1 h0 h2 hz
      go_enter Tryz.func50, Tryz.ntmps50
      go_wp2_with fail
      go_ret
      exact ⟨by rw [HV.out]; rfl, Below.refl _ _⟩
    · have HV : Hid (digB s.data.toList = s.data.toList.all isDig) := by
        unfold Hid digB
        rw [hz, ← HSZ.out, h00]
        have : (decide (1 < s.size) && decide (s[0]'hpos = 48)) = false := by
          rw [Bool.eq_false_iff, ne_eq, Bool.and_eq_true, decide_eq_true_eq, decide_eq_true_eq]
          exact h12
        rw [this]
        rfl
      obtain ⟨q, hq⟩ : ∃ q, s.data.toList.all isDig = q := ⟨_, rfl⟩
      rw [hq] at HV C1
      by_cases h1 : 1 < s.size
      · have hi : (1 : Int) < (s.size : Int) := by omega
        have hb : (((s[0]'hpos).toNat : Int) == 48) = false := by
          rw [beq_eq_false_iff_ne]
          intro e
          refine h12 ⟨h1, UInt8.toNat_inj.1 ?_⟩
          show (s[0]'hpos).toNat = 48
          omega
        clear CF h0 hz h12 hq
        go_enter Tryz.func50, Tryz.ntmps50
        go_wp2_with fail
        refine C1.out.mono ?_
        rintro e w1 ⟨rfl, hb⟩
        have HB := Lib.hid hb
        clear hb
        go_wp2_with fail
        go_ret
        exact ⟨by rw [HV.out]; cases q <;> rfl, HB.out⟩
      · have hi : decide ((1 : Int) < (s.size : Int)) = false := decide_eq_false (by omega)
        have hin : decide (1 < s.size) = false := decide_eq_false h1
        clear CF h0 hz h12 hq h1
        go_enter Tryz.func50, Tryz.ntmps50
        go_wp2_with fail
        refine C1.out.mono ?_
        rintro e w1 ⟨rfl, hb⟩
        have HB := Lib.hid hb
        clear hb
        go_wp2_with fail
        go_ret
        exact ⟨by rw [HV.out]; cases q <;> rfl, HB.out⟩
end Go.Proofs.YtngbjnjkcniabaaGreatDoor
