/- The walks over the reference's digit and run. -/
import Derived.Test.YtghahghbahcpfaaGreatDoorNw1
import Derived.Test.YtghahghbahcpfaaGreatDoorNw2
import Derived.StillTailTactics
import Derived.Test.YtghahghbahcpfaaGreatDoorVs5
namespace Go.Proofs.YtghahghbahcpfaaGreatDoor
open Go.RowKit

end Go.Proofs.YtghahghbahcpfaaGreatDoor
/- The walks over the reference's Compare. -/
namespace Go.Proofs.YtghahghbahcpfaaGreatDoor
open Go.RowKit

end Go.Proofs.YtghahghbahcpfaaGreatDoor
/- The walk over the reference's Compare. -/
namespace Go.Proofs.YtghahghbahcpfaaGreatDoor
open Go.RowKit

end Go.Proofs.YtghahghbahcpfaaGreatDoor
/- The walks over the reference's Has, and its Ascending at lists that ascend. -/
namespace Go.Proofs.YtghahghbahcpfaaGreatDoor
open Go.RowKit

def HsRel (key : ByteArray) (L : List ByteArray) (w1 : World) (f : Nat) (t : Value) (wr : World) : Prop :=
  ∃ i : Nat, t = .int .i64 (i : Nat) ∧ i ≤ L.length ∧ f = L.length - i ∧ (L.take i).contains key = false ∧ wr = w1
theorem take_contains {key : ByteArray} {L : List ByteArray} {i : Nat} (h : i < L.length) (hk : (L.take i).contains key = false) : (L[i] = key → L.contains key = true) ∧ (L[i] ≠ key → (L.take (i + 1)).contains key = false) := by
  refine ⟨fun e => ?_, fun e => ?_⟩
  · rw [← any_contains, List.any_eq_true]
    exact ⟨_, List.getElem_mem h, decide_eq_true e⟩
  · rw [List.take_succ_eq_append_getElem h, ← any_contains, List.any_append, any_contains, hk, List.any_cons, decide_eq_false e]; rfl
set_option maxRecDepth 100000 in
set_option maxHeartbeats 1600000 in
theorem rhas_any (key : ByteArray) (v : Value) (L : List ByteArray) (B : Nat → Prop) (hl : L.length ≤ 9223372036854775807) (w : World) (h : EStr.Row B w L v) :
    Calls Tryz.prog 27 #[v, .string key] w fun e w' => e = .returned (.bool (L.contains key)) ∧ w' = w := by
  obtain ⟨ko, kc, rfl⟩ := h.form
  have H := Lib.hid h
  clear h
  go_enter Tryz.func27, Tryz.ntmps27
  go_wp2_with fail
  go_loopg [5] L.length (HsRel key L w)
  case atStart => exact ⟨0, rfl, Nat.zero_le _, rfl, rfl, rfl⟩
  case round =>
    obtain ⟨i, rfl, hi, rfl, hk, rfl⟩ := hrel
    have HK := Lib.hid hk
    clear hk
    by_cases hlt : i < L.length
    · obtain ⟨b1, o1, rfl, _, hc1⟩ := strs_at H.out hlt
      have hii : (i : Int) < (L.length : Int) := by omega
      have HT := Lib.hid (take_contains hlt HK.out)
      generalize L[i] = x at *
      by_cases hx : x = key
      · have HN := Lib.hid (HT.out.1 hx)
        subst hx
        have t1 : (x.toList == x.toList) = true := by simp
        clear HT HK
        as_aux_lemma =>
        go_wp2_with fail
        go_ret
        exact ⟨by rw [HN.out] <;> rfl, rfl⟩
      · have HN := Lib.hid (HT.out.2 hx)
        have t1 : (x.toList == key.toList) = false := by rw [Bool.eq_false_iff]; exact fun h => hx (bytes_beq h)
        clear HT HK hx
        as_aux_lemma =>
        go_wp2_with fail
        go_roundg (L.length - (i + 1))
        case measure => omega
        case rel => exact ⟨i + 1, by go_num, by omega, rfl, HN.out, rfl⟩
    · have hii : ¬ (i : Int) < (L.length : Int) := by omega
      have he : i = L.length := by omega
      have HN : Hid (L.contains key = false) := by unfold Hid; have := HK.out; rwa [he, List.take_length] at this
      clear HK he
      go_wp2_with fail
      go_ret
      exact ⟨by rw [HN.out] <;> rfl, rfl⟩
/-- ascending lists of strings -/
def AscB (L : List ByteArray) : Prop := L.Pairwise fun x y => natC x.data.toList y.data.toList < 0
theorem AscB.at {L : List ByteArray} (h : AscB L) {i : Nat} (h1 : 1 ≤ i) (hi : i < L.length) : natC (L[i - 1]'(by omega)).data.toList L[i].data.toList < 0 := List.pairwise_iff_getElem.1 h (i - 1) i (by omega) hi (by omega)
end Go.Proofs.YtghahghbahcpfaaGreatDoor
