/- The iterator of slices.Backward at numbers: what it hands to the body of a loop, round by round. -/
import Derived.Test.YtfegmmafcopbpaaGreatDoorGm1
import Derived.RangeFuncNested
import Derived.RangeFuncBound
import Derived.RangeFuncCalls
import Derived.RangeFuncLeaves
import Derived.RangeFuncWrites
import Derived.Shelf.Abstract
import Derived.Shelf.RegionOpen
import Derived.OwnWalkIn
import Derived.TacticsInMore
import Derived.LoopNIn
import Derived.LoopIn
namespace Go.Proofs.YtfegmmafcopbpaaGreatDoor
open Go.RowKit Go.Shelf

attribute [local go_sem] Oper.semAt_some

def upto {α : Type} (f : Nat → α) (k : Nat) : List α := (List.range k).map f
theorem upto_succ {α : Type} (f : Nat → α) (k : Nat) : upto f (k + 1) = upto f k ++ [f k] := by simp [upto, List.range_succ]
theorem upto_length {α : Type} (f : Nat → α) (k : Nat) : (upto f k).length = k := by simp [upto]

/-- what slices.Backward hands over: the index and the number there -/
abbrev BX (N : Nat) := Nat × { k : Nat // k < N }
abbrev bxV {N : Nat} (x : BX N) : Array Value := #[intV x.1, intV x.2.1]
def bwd {N : Nat} (zf : Nat → { k : Nat // k < N }) (len : Nat) : Nat → BX N := fun j => (len - 1 - j, zf (len - 1 - j))

set_option maxRecDepth 100000 in
set_option maxHeartbeats 2000000 in
theorem back1_in (N : Nat) (F : Fence) (n : Nat) (h8 : F.fn 81) (hro : F.round = none) (hn : 1 ≤ n) (l Bs n₀ bb b off len cap : Nat) (zf : Nat → { k : Nat // k < N }) (hlen : len ≤ 1000000) (hb : b < n₀) (hbb : b ≠ bb) (hBn : Bs < n₀) (hBb : Bs ≠ bb) (J Jx : List (BX N) → World → Prop)
    (hY : ∀ pre x W, J pre W → pre.length < len → YieldAt F (n - 1) Tryz.prog l (bxV x) W fun e W' =>
      (e = .returned (.bool true) ∧ J (pre ++ [x]) W' ∧ Kp n₀ (· = bb) W W') ∨ (e = .returned (.bool false) ∧ Jx (pre ++ [x]) W'))
    (W : World) (hBs : W.cell? ⟨Bs, 0, none⟩ = some (.slice (some ⟨b, off, none⟩) len cap)) (hc : ∀ j, j < len → W.cell? ⟨b, off + j, none⟩ = some (intV (zf j).1)) (h0 : J [] W) :
    CallsIn F n Tryz.prog 81 #[.func (.yield l) #[] #[], .pointer (some ⟨Bs, 0, none⟩)] W fun e W' => (∃ v, e = .returned v) ∧
      ((∃ ys, ys = upto (bwd zf len) len ∧ J ys W') ∨ (∃ pre, (∃ k, k ≤ len ∧ pre = upto (bwd zf len) k) ∧ Jx pre W')) := by
  refine callsIn_of_wp Tryz.func81 rfl h8 ?_ hro
  simp only [Tryz.ntmps81, List.size_toArray, List.length_cons, List.length_nil, Nat.reduceAdd, Nat.reduceSub, Array.replicate_succ, Array.replicate_zero, List.push_toArray, List.append_toArray, List.nil_append, List.cons_append]
  gi_wp2
  gi_loopw [3] (fun i wr => ∃ r : Nat, r ≤ len ∧ i = .int .i64 ((r : Int) - 1) ∧ J (upto (bwd zf len) (len - r)) wr ∧ Kp n₀ (· = bb) W wr)
    (fun i _ => (intOf i + 1).toNat)
  case atStart =>
    refine ⟨len, Nat.le_refl _, ?_, by rw [Nat.sub_self]; exact h0, Kp.refl _ _ _⟩
    first | rfl | simp
  case round =>
    obtain ⟨r, hr, rfl, hJs, hnx⟩ := hrel
    have hBs2 : wr.cell? ⟨Bs, 0, none⟩ = some (.slice (some ⟨b, off, none⟩) len cap) := (World.cell?_of_block (a := ⟨Bs, 0, none⟩) (hnx.block Bs hBn hBb)).trans hBs
    by_cases hlt : 0 < r
    · obtain ⟨q, rfl⟩ : ∃ q, r = q + 1 := ⟨r - 1, by omega⟩
      have hcx : wr.cell? ⟨b, off + q, none⟩ = some (intV (zf q).1) := (World.cell?_of_block (a := ⟨b, off + q, none⟩) (hnx.block b hb hbb)).trans (hc q (by omega))
      have e1 : (((q + 1 : Nat) : Int) - 1) = (q : Nat) := by omega
      have hq : (q : Int) < (len : Int) := by omega
      have hx : bwd zf len (len - (q + 1)) = (q, zf q) := by
        unfold bwd
        rw [show len - 1 - (len - (q + 1)) = q by omega]
      obtain ⟨fn, tmps, assign, body, hy, hR⟩ := hY _ (q, zf q) wr hJs (by rw [upto_length]; omega)
      try dsimp only at hy
      rw [e1]
      gi_wp2
      refine hR.mono ?_
      rintro e W3 (⟨rfl, hJ3, hk3⟩ | ⟨rfl, hJx3⟩)
      · gi_wp2
        go_roundw
        case rel =>
          refine ⟨q, by omega, by first | rfl | simp, ?_, hnx.trans hk3⟩
          rw [show len - q = len - (q + 1) + 1 by omega, upto_succ, hx]
          exact hJ3
        case measure => simp [intOf]
      · gi_wp2
        refine bodyPost_ret (results_none rfl _ _ _) rfl ?_
        exact ⟨⟨_, rfl⟩, .inr ⟨_, ⟨len - (q + 1) + 1, by omega, by rw [upto_succ, hx]⟩, hJx3⟩⟩
    · obtain rfl : r = 0 := by omega
      gi_wp2
      go_end0
      exact ⟨⟨_, rfl⟩, .inl ⟨_, by rw [Nat.sub_zero], hJs⟩⟩
end Go.Proofs.YtfegmmafcopbpaaGreatDoor
