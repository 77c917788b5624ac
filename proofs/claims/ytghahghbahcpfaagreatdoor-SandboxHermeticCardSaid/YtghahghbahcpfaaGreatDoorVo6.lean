/- How many tests an execution lists, how long the keys are that it saves. -/
import Derived.Test.YtghahghbahcpfaaGreatDoorVo4
namespace Go.Proofs.YtghahghbahcpfaaGreatDoor

structure Bk (x : StM) : Prop where
  tl : x.tests.length ≤ 1000
  sk : ∀ e ∈ x.saves, e.key.size ≤ 10000
theorem Bk.of {x y : StM} (h : Bk x) (e1 : y.tests = x.tests) (e2 : y.saves = x.saves) : Bk y := ⟨by rw [e1]; exact h.tl, by rw [e2]; exact h.sk⟩
theorem Bk.setR {x : StM} (h : Bk x) (a : Nat) (r : List OutM) : Bk { x with acc := a, reads := r } := h.of rfl rfl
theorem Bk.setA {x : StM} (h : Bk x) (a : Nat) : Bk { x with acc := a } := h.of rfl rfl
theorem keyF_size {v : ViewM} (hB : VB v) (n : Int) : (keyF v n).size ≤ 10000 := by
  unfold keyF
  rw [List.getD_eq_getElem?_getD]
  cases h : v.keys[n.toNat]? with
  | none => exact Nat.zero_le _
  | some k => exact hB.keyN k (List.mem_of_getElem? h)
theorem bk_push {sv : List EntM} (h : ∀ e ∈ sv, e.key.size ≤ 10000) (k : ByteArray) (hk : k.size ≤ 10000) (b : Bool) : ∀ e ∈ (if b = true then sv else sv ++ [entK k]), e.key.size ≤ 10000 := by
  cases b with
  | true => exact h
  | false =>
    intro e he
    rcases List.mem_append.1 he with he | he
    · exact h e he
    · have he : e = entK k := List.mem_singleton.1 he
      rw [he, entK_key]
      exact hk
theorem Bk.setS {x : StM} (h : Bk x) (a : Nat) (sv : List EntM) (hs : ∀ e ∈ sv, e.key.size ≤ 10000) : Bk { x with acc := a, saves := sv } := ⟨h.tl, hs⟩
theorem Bk.take {v : ViewM} {x : StM} {s : StepM} (hB : VB v) (h : Bk x) : Bk (takeF v x s) := by
  by_cases h1 : s.op = 1
  · rw [takeF_one h1]
    cases fileF v s.name with
    | none => exact h
    | some f => exact h.setR _ _
  by_cases h2 : s.op = 2
  · rw [takeF_two h2]
    cases artF v s.name with
    | none => exact h
    | some f => exact h.setR _ _
  by_cases h3 : s.op = 3
  · rw [takeF_three h3]
    cases secF v s.name with
    | none => exact h
    | some f => exact h.setA _
  by_cases h4 : s.op = 4
  · rw [takeF_four h4]
    exact h.setS _ _ (bk_push h.sk _ (keyF_size hB _) _)
  · rw [takeF_rest h1 h2 h3 h4]
    exact h
theorem Bk.perform {v : ViewM} {x : StM} {s : StepM} (hB : VB v) (h : Bk x) : Bk (performF v x s).1 := by
  have ht : Bk (takeF v x s) := h.take hB
  by_cases h5 : s.op = 5
  · rw [performF_5 h5]; exact ht.of rfl rfl
  by_cases h6 : s.op = 6
  · rw [performF_6 h6]; exact ht.of rfl rfl
  by_cases h7 : s.op = 7
  · rw [performF_7 h7]; exact ht.of rfl rfl
  by_cases h8 : s.op = 8
  · rw [performF_8 h8]
    refine ⟨?_, ht.sk⟩
    show (testsF v s).length ≤ 1000
    unfold testsF
    rw [List.length_map]
    exact hB.tests
  by_cases h9 : s.op = 9
  · rw [performF_9 h9]; exact ht
  by_cases h11 : s.op = 11
  · rw [performF_11 h11]; exact ht.of rfl rfl
  · rw [performF_r h5 h6 h7 h8 h9 h11]; exact ht
theorem Bk.step {D : ByteArray → Bool} {j : JobM} {v : ViewM} {x : StM} {s : StepM} (hB : VB v) (h : Bk x) : Bk (stepF D j v x s).1 := by
  unfold stepF
  split
  · exact h
  split
  · exact h.of rfl rfl
  · exact (h.of (y := { x with time := addI x.time (takesF v x.saves s) }) rfl rfl).perform hB
theorem exec_bk (D : ByteArray → Bool) (j : JobM) (v : ViewM) (hB : VB v) : (execF D j v).tests.length ≤ 1000 ∧ ∀ e ∈ (execF D j v).saves, e.key.size ≤ 10000 := by
  have h := runF_ind D j v Bk j.steps (st0 j) (fun _ _ _ h => h.step hB) ⟨Nat.zero_le _, fun o h => absurd (show o ∈ ([] : List EntM) from h) List.not_mem_nil⟩
  unfold execF effectF
  generalize runF D j v (st0 j) j.steps = r at *
  exact ⟨h.tl, h.sk⟩
end Go.Proofs.YtghahghbahcpfaaGreatDoor
