/- The walk over report.lines: an iterator that keeps what is left of the text in a cell of its own. -/
import Derived.Test.YtngbjnjkcniabaaGreatDoorRp5
import Derived.RangeFuncNested
import Derived.RangeFuncBound
import Derived.RangeFuncCalls
import Derived.RangeFuncLeaves
import Derived.Shelf.Abstract
import Derived.Shelf.RegionOpen
import Derived.WalkKit
import Derived.OwnWalkIn
import Derived.TacticsInMore
import Derived.LoopNIn
import Derived.LoopIn
namespace Go.Proofs.YtngbjnjkcniabaaGreatDoor
open Go.RowKit Go.Shelf

attribute [local go_sem] Oper.semAt_some

def lineF (t : List UInt8) : List UInt8 := if (Lib.cut t [10]).2.2 = true then (Lib.cut t [10]).1 else (Lib.cut t [10]).1 ++ [0]
def leftS (bs : Nat) (w : World) : Nat := match w.cell? ⟨bs, 0, none⟩ with
  | some (.string s) => s.size
  | _ => 0
theorem cut_less {t : List UInt8} (h : t ≠ []) : (Lib.cut t [10]).2.1.length < t.length := by
  have : 0 < t.length := List.length_pos_iff.2 h
  unfold Lib.cut
  split
  · simp; omega
  · simp; omega

theorem cut_fst (t : List UInt8) : (Lib.cut t [10]).1.length ≤ t.length := by
  unfold Lib.cut
  split
  · simp; omega
  · exact Nat.le_refl _
theorem add_zero_byte (x : List UInt8) : (⟨x.toArray⟩ : ByteArray) ++ ⟨#[0]⟩ = ⟨(x ++ [0]).toArray⟩ := by
  have h : ∀ a b : ByteArray, a.data.toList = b.data.toList → a = b := fun a b h => by cases a; cases b; simp at h; simp [h]
  apply h
  simp

set_option maxRecDepth 100000 in
set_option maxHeartbeats 3200000 in
theorem lines_it (l bs n : Nat) (m : Int) (J Jm : Nat → List UInt8 → World → Prop) (Jx : World → Prop)
    (hc : ∀ k t W, J k t W → W.cell? ⟨bs, 0, none⟩ = some (.string ⟨t.toArray⟩) ∧ W.cell? ⟨0, 0, none⟩ = some (.int .i64 m) ∧ t.length ≤ 1000000 ∧ k + t.length ≤ 2000000)
    (hd : ∀ k t W q, J k t W → J k t (W.drewN q))
    (hY : ∀ k t W, t ≠ [] → J k t W → YieldAt Fence.wide (n - 1) Tryz.prog l #[.int .i64 (k : Nat), .string ⟨(lineF t).toArray⟩] W fun e W' => (e = .returned (.bool true) ∧ Jm k t W') ∨ (e = .returned (.bool false) ∧ Jx W'))
    (hm : ∀ k t W, Jm k t W → W.cell? ⟨bs, 0, none⟩ = some (.string ⟨t.toArray⟩) ∧ W.frozen? ⟨bs, 0, none⟩ = false ∧ J (k + 1) (Lib.cut t [10]).2.1 (W.setCell ⟨bs, 0, none⟩ (.string ⟨(Lib.cut t [10]).2.1.toArray⟩)))
    (W : World) (t0 : List UInt8) (h0 : J 1 t0 W) :
    CallsIn Fence.wide n Tryz.prog 46 #[.func (.yield l) #[] #[], .pointer (some ⟨bs, 0, none⟩)] W fun e W' => (∃ v, e = .returned v) ∧ ((∃ k, J k [] W') ∨ Jx W') := by
  refine callsIn_of_wp Tryz.func46 rfl trivial ?_ rfl
  simp only [Tryz.ntmps46, List.size_toArray, List.length_cons, List.length_nil, Nat.reduceAdd, Nat.reduceSub, Array.replicate_succ, Array.replicate_zero, List.push_toArray, List.append_toArray, List.nil_append, List.cons_append]
  gi_wp2
  gi_loopw [3] (fun p wr => ∃ (k : Nat) (t : List UInt8), p = .int .i64 (k : Nat) ∧ J k t wr) (fun p wr => leftS bs wr)
  case atStart => exact ⟨1, t0, rfl, h0⟩
  case round =>
    obtain ⟨k, t, rfl, hj⟩ := hrel
    obtain ⟨hcell, hml, htl, hkl⟩ := hc k t wr hj
    by_cases ht : t = []
    · subst ht
      gi_wp2
      go_end0
      exact ⟨⟨_, rfl⟩, .inl ⟨k, hj⟩⟩
    · obtain ⟨sB, hsB⟩ : ∃ sB : ByteArray, sB = ⟨t.toArray⟩ := ⟨_, rfl⟩
      have hsd : sB.data.toList = t := by rw [hsB]
      have hei := empty_is sB
      rw [hsd, decide_eq_false ht] at hei
      have hsz : sB.size = t.length := by rw [Lib.size_eq, hsd]
      rw [← hsB] at hcell
      have CT := Lib.hid (Tryz.strings_Cut sB ⟨#[10]⟩ m wr (by omega) hml)
      rw [hsd] at CT
      have HSD := Lib.hid hsd
      have HSB := Lib.hid hsB
      have HJ := Lib.hid hj
      have HKL := Lib.hid hkl
      have HTL := Lib.hid htl
      have HT := Lib.hid ht
      clear hsd hsB hj hkl htl ht hsz
      gi_wp2_with fail
      refine ⟨trivial, fun h => (by cases h), ?_⟩
      refine (callsIn_wide.2 CT.out).mono ?_
      rintro e w2 ⟨rfl, q, rfl⟩
      have HJ2 := Lib.hid (hd _ _ _ q HJ.out)
      obtain ⟨w2, hw2⟩ : ∃ W, wr.drewN q = W := ⟨_, rfl⟩
      have hlf : leftS bs wr = sB.size := by unfold leftS; rw [hcell]
      rw [hw2] at HJ2 ⊢
      clear hcell hml CT hei
      cases hwh : (Lib.cut t [10]).2.2 with
      | true =>
        have HLN : Hid ((Lib.cut t [10]).1 = lineF t) := by unfold Hid lineF; rw [if_pos hwh]
        obtain ⟨fn, tmps, assign, body, hy, hR⟩ := hY k t w2 HT.out HJ2.out
        rw [← HLN.out] at hy
        clear hwh HJ hw2
        gi_wp2_with fail
        refine ⟨fun h => (by cases h), ?_⟩
        refine hR.mono ?_
        clear hR hy
        rintro e W3 (⟨rfl, hjm⟩ | ⟨rfl, hjx⟩)
        · obtain ⟨c3, f3, j3⟩ := hm k t W3 hjm
          have HJ3 := Lib.hid j3
          have hkb : ((k : Nat) : Int) ≤ 2000000 := by have := HKL.out; omega
          clear hjm j3
          gi_wp2
          go_roundw
          case rel => exact ⟨k + 1, _, by go_num, HJ3.out⟩
          case measure =>
            have h1 := (hc _ _ _ HJ3.out).1
            have h2 := cut_less HT.out
            show leftS bs _ < leftS bs wr
            rw [hlf]
            unfold leftS
            rw [h1]
            show (⟨(Lib.cut t [10]).2.1.toArray⟩ : ByteArray).size < sB.size
            rw [Lib.size_eq, Lib.size_eq sB, HSD.out]
            exact h2
        · gi_wp2
          refine bodyPost_ret (results_none rfl _ _ _) rfl ?_
          exact ⟨⟨_, rfl⟩, .inr hjx⟩
      | false =>
        have HLN : Hid ((Lib.cut t [10]).1 ++ [0] = lineF t) := by unfold Hid lineF; rw [if_neg (by simp [hwh])]
        obtain ⟨fn, tmps, assign, body, hy, hR⟩ := hY k t w2 HT.out HJ2.out
        rw [← HLN.out, ← add_zero_byte] at hy
        have hfl : ¬ 9223372036854775807 < (Lib.cut t [10]).1.length + 1 := by
          have h1 := cut_fst t
          have h2 := HTL.out
          omega
        clear hwh HJ hw2
        gi_wp2_with fail
        refine ⟨fun h => (by cases h), ?_⟩
        refine hR.mono ?_
        clear hR hy
        rintro e W3 (⟨rfl, hjm⟩ | ⟨rfl, hjx⟩)
        · obtain ⟨c3, f3, j3⟩ := hm k t W3 hjm
          have HJ3 := Lib.hid j3
          have hkb : ((k : Nat) : Int) ≤ 2000000 := by have := HKL.out; omega
          clear hjm j3
          gi_wp2
          go_roundw
          case rel => exact ⟨k + 1, _, by go_num, HJ3.out⟩
          case measure =>
            have h1 := (hc _ _ _ HJ3.out).1
            have h2 := cut_less HT.out
            show leftS bs _ < leftS bs wr
            rw [hlf]
            unfold leftS
            rw [h1]
            show (⟨(Lib.cut t [10]).2.1.toArray⟩ : ByteArray).size < sB.size
            rw [Lib.size_eq, Lib.size_eq sB, HSD.out]
            exact h2
        · gi_wp2
          refine bodyPost_ret (results_none rfl _ _ _) rfl ?_
          exact ⟨⟨_, rfl⟩, .inr hjx⟩
end Go.Proofs.YtngbjnjkcniabaaGreatDoor
