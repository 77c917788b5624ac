/- The walks over the reference's Parts, IsPath. -/
import Derived.Test.YtngbjnjkcniabaaGreatDoorIdent3
namespace Go.Proofs.YtngbjnjkcniabaaGreatDoor
open Go.RowKit

theorem StrsAt.of_row {w : World} {base : Nat} {v : Value} {ss : List ByteArray} (h : w.ownsRow base 9 1 v ss.length (ss.map Value.string)) : StrsAt w v ss := by
  rcases h.2 with ⟨rfl, h0⟩ | ⟨g, cap, cur, rfl, hb, hg, hn, hr⟩
  · exact .inl ⟨_, _, rfl, List.length_eq_zero_iff.1 h0⟩
  · refine .inr ⟨g, 0, cap, rfl, (Array.getElem?_eq_some_iff.1 hg).1, hn, fun i hi => ?_⟩
    have := h.cells (g := g) rfl i (.string (ss.getD i ByteArray.empty)) (by simp [List.getD, hi])
    have e : (⟨g, 0, none⟩ : Addr).add i = ⟨g, 0 + i, none⟩ := by unfold Addr.add; split <;> simp_all
    rw [e] at this
    exact this

def RPartsRel (w1 : World) (ss : List ByteArray) (f : Nat) (t5 : Value) (wr : World) : Prop :=
  ∃ k : Nat, t5 = .int .i64 (k : Nat) ∧ k ≤ ss.length ∧ f = ss.length - k ∧ allN ss k = true ∧ wr = w1

set_option maxRecDepth 100000 in
set_option maxHeartbeats 800000 in
theorem rparts_any (s : ByteArray) (w : World) : Calls Tryz.prog 57 #[.string s] w (PartsPost s.data.toList w) := by
  have HS := Lib.hid (Lib.size_eq s)
  go_enter Tryz.func57, Tryz.ntmps57
  by_cases hl : 512 < s.size
  · have HP : Hid (partsF s.data.toList = 3) := by unfold Hid partsF; rw [if_pos (by rw [← HS.out]; exact hl)]
    have hli : (512 : Int) < (s.size : Int) := by omega
    go_wp2_with fail
    go_ret2
    exact ⟨_, [], by rw [HP.out]; rfl, Below.refl _ _, (by rw [HP.out]; simp), fun _ => rfl⟩
  · have HP : Hid (partsF s.data.toList = if pathF s.data.toList then 0 else 1) := by unfold Hid partsF; rw [if_neg (by rw [← HS.out]; exact hl)]
    go_wp2_with fail
    refine (rsplit_any s (by omega) w).mono ?_
    rintro e w1 ⟨v, ss, rfl, hrow, hpc, hb⟩
    obtain ⟨ao, cap, rfl⟩ := ownsRow_form hrow
    have hlen : ss.length ≤ 513 := by
      have h1 := pcs_len 47 s.data.toList
      rw [← hpc, List.length_map] at h1
      have := HS.out; omega
    have HAT := Lib.hid (StrsAt.of_row hrow)
    have HPC := Lib.hid hpc
    have HB := Lib.hid hb
    have HALLN := Lib.hid (allN_pathF hpc)
    clear hrow hpc hb
    go_wp2_with fail
    go_loopg [5] ss.length (RPartsRel w1 ss)
    case atStart => exact ⟨0, rfl, Nat.zero_le _, rfl, rfl, rfl⟩
    case round =>
      obtain ⟨k, rfl, hk, rfl, hall, rfl⟩ := hrel
      have HALL := Lib.hid hall
      clear hall
      by_cases hlt : k < ss.length
      · obtain ⟨b, off, rfl, hbl, hc⟩ := HAT.out.at_ hlt
        have hii : (k : Int) < (ss.length : Int) := by omega
        have HAS := Lib.hid (allN_succ hlt)
        have HAN := Lib.hid (fun h => allN_no (ss := ss) hlt h)
        generalize ss.getD k ByteArray.empty = p at *
        go_wp2_with fail
        refine (rname_any p _).mono ?_
        rintro e w2 ⟨rfl, rfl⟩
        cases hok : nameF p.data.toList with
        | true =>
          have HA : Hid (allN ss (k + 1) = true) := by unfold Hid; rw [HAS.out, HALL.out, hok]; rfl
          clear hok
          go_wp2_with fail
          go_roundg (ss.length - (k + 1))
          case measure => omega
          case rel => exact ⟨k + 1, by go_num, by omega, rfl, HA.out, rfl⟩
        | false =>
          have HP2 : Hid (partsF s.data.toList = 1) := by unfold Hid; rw [HP.out, ← HALLN.out, HAN.out hok]; rfl
          clear hok
          go_wp2_with fail
          go_ret2
          exact ⟨_, [], by rw [HP2.out]; rfl, HB.out, (by rw [HP2.out]; simp), fun _ => rfl⟩
      · have he : k = ss.length := by omega
        subst he
        have HP2 : Hid (partsF s.data.toList = 0) := by unfold Hid; rw [HP.out, ← HALLN.out, HALL.out]; rfl
        go_wp2_with fail
        go_ret2
        exact ⟨_, ss, by rw [HP2.out]; rfl, HB.out, fun _ => ⟨HAT.out, HPC.out⟩, fun h => absurd HP2.out h⟩
end Go.Proofs.YtngbjnjkcniabaaGreatDoor
