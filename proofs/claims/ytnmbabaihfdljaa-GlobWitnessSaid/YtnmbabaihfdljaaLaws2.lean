/- The walk over the law Lists. -/
import Derived.Test.YtnmbabaihfdljaaLaws
namespace Go.Proofs.Ytnmbabaihfdljaa
open Go.RowKit
open Bs

def ListsRel (w : World) (ss : List ByteArray) (f : Nat) (t5 : Value) (wr : World) : Prop :=
  ∃ i : Nat, t5 = .int .i64 (i : Nat) ∧ i ≤ ss.length ∧ f = ss.length - i ∧ (∀ j, j < i → (ss.getD j ByteArray.empty).size ≤ 200) ∧ wr = w

set_option maxRecDepth 100000 in
set_option maxHeartbeats 1600000 in
theorem lists_law (ss : List ByteArray) (v : Value) (a1 : ByteArray) (_w1 : a1.size ≤ maxLen) (hss : ∀ p ∈ ss, p.size ≤ maxLen) (_hn : ss.length ≤ maxLen) (w : World) (hat : StrsAt w v ss) :
    Calls Try.prog 5 #[v, .string a1] w (LawPost w) := by
  obtain ⟨ao, cap, rfl⟩ := hat.form
  have HAT := Lib.hid hat
  have HSS := Lib.hid hss
  clear hat hss
  go_enter Try.func5, Try.ntmps5
  by_cases hl : 10 < ss.length
  · go_wp2_with fail
    refine (lives_any w).mono ?_
    rintro e w1 ⟨rfl, hb⟩
    have HB := Lib.hid hb
    clear hb
    go_wp2
    go_ret
    exact ⟨rfl, HB.out⟩
  · by_cases hl2 : 200 < a1.size
    · go_wp2_with fail
      refine (lives_any w).mono ?_
      rintro e w1 ⟨rfl, hb⟩
      have HB := Lib.hid hb
      clear hb
      go_wp2
      go_ret
      exact ⟨rfl, HB.out⟩
    · go_wp2_with fail
      go_loopg [5] ss.length (ListsRel w ss)
      case atStart => exact ⟨0, rfl, Nat.zero_le _, rfl, fun j hj => by omega, rfl⟩
      case round =>
        obtain ⟨i, rfl, hi, rfl, hsm, rfl⟩ := hrel
        have HSM := Lib.hid hsm
        clear hsm
        by_cases hlt : i < ss.length
        · obtain ⟨b, off, rfl, hc⟩ := HAT.out.at_ hlt
          have hpm : (ss.getD i ByteArray.empty).size ≤ maxLen := HSS.out _ (by simp [List.getD, hlt])
          have HP := Lib.hid (rfl : ss.getD i ByteArray.empty = ss.getD i ByteArray.empty)
          generalize hp : ss.getD i ByteArray.empty = p at hc hpm
          have HP := Lib.hid hp
          clear hp
          by_cases hbig : 200 < p.size
          · go_wp2_with fail
            refine (lives_any _).mono ?_
            rintro e w1 ⟨rfl, hb⟩
            have HB := Lib.hid hb
            clear hb
            go_wp2
            go_ret
            exact ⟨rfl, HB.out⟩
          · go_wp2
            go_roundg (ss.length - (i + 1))
            case measure => omega
            case rel =>
              refine ⟨i + 1, by go_num, by omega, rfl, ?_, rfl⟩
              intro j hj
              by_cases e : j = i
              · subst e; rw [HP.out]; omega
              · exact HSM.out j (by omega)
        · have hsz : ∀ p ∈ ss, p.size ≤ 1000000 := by
            intro p hp
            obtain ⟨j, hj, rfl⟩ := List.getElem_of_mem hp
            have := HSM.out j (by omega)
            simp [List.getD, hj] at this
            omega
          have HSZ := Lib.hid hsz
          clear hsz
          go_wp2_with fail
          refine (gany_any ss _ a1 (by omega) (by omega) HSZ.out _ HAT.out).mono ?_
          rintro e w1 ⟨rfl, hb⟩
          have HB := Lib.hid hb
          clear hb
          go_wp2_with fail
          refine (rany_any ss _ a1 (by omega) (by omega) HSZ.out _ (HAT.out.below HB.out)).mono ?_
          rintro e w2 ⟨rfl, hb⟩
          rw [gany_same ss _ ss.length (Nat.le_refl _), List.take_length]
          have HB := Lib.hid (HB.out.trans (hb.mono HB.out.size))
          clear hb
          have ht : (ranyF ss a1.data.toList == ranyF ss a1.data.toList) = true := by simp
          go_wp2_with fail
          refine (lives_any w2).mono ?_
          rintro e w3 ⟨rfl, hb⟩
          have HB := Lib.hid (HB.out.trans (hb.mono HB.out.size))
          clear hb
          go_wp2
          go_ret
          exact ⟨rfl, HB.out⟩
end Go.Proofs.Ytnmbabaihfdljaa
