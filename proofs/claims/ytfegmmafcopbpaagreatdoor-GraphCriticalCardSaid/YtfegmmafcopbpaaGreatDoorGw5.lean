/- The walk over order of package graph, whole. -/
import Derived.Test.YtfegmmafcopbpaaGreatDoorGw4
namespace Go.Proofs.YtfegmmafcopbpaaGreatDoor
open Go.RowKit

/-- what stands while a node that was chosen is struck from what waits for it -/
def leftJ (G : Gr) (out : List Nat) (i j : Nat) : Nat → Nat := fun k => leftG G out k - if k ∈ (be G i).take j then 1 else 0
def freeJ (G : Gr) (out free : List Nat) (i j : Nat) : List Nat := (free.filter fun x => !decide (x = i)) ++ ((be G i).take j).filter fun k => decide (leftG G (out ++ [i]) k = 0)

theorem take_nd {l : List Nat} (hn : l.Nodup) {j : Nat} (hj : j < l.length) : l.take (j + 1) = l.take j ++ [l.getD j 0] ∧ l.getD j 0 ∉ l.take j := by
  have e : l.take (j + 1) = l.take j ++ [l.getD j 0] := by rw [List.take_add_one, List.getD, List.getElem?_eq_getElem hj]; rfl
  refine ⟨e, fun hm => ?_⟩
  have h2 : (l.take (j + 1)).Nodup := hn.sublist (List.take_sublist _ _)
  rw [e, List.nodup_append] at h2
  exact h2.2.2 _ hm _ (by simp) rfl

theorem leftJ_end {G : Gr} (hs : Sound G) {out : List Nat} {i : Nat} (hi : i ∉ out) (k : Nat) : leftJ G out i (be G i).length k = leftG G (out ++ [i]) k := by
  unfold leftJ
  rw [List.take_length, leftG_add hs hi k]
  split <;> omega
theorem leftJ_at {G : Gr} (hs : Sound G) {out : List Nat} {i j : Nat} (hi : i ∉ out) (hj : j < (be G i).length) : leftJ G out i j ((be G i).getD j 0) = leftG G (out ++ [i]) ((be G i).getD j 0) + 1 := by
  unfold leftJ
  rw [if_neg (take_nd (be_nodup G i) hj).2, leftG_add hs hi, if_pos (getD_at hj)]
  rfl
theorem leftJ_step {G : Gr} {out : List Nat} {i j : Nat} (hj : j < (be G i).length) (hat : leftJ G out i j ((be G i).getD j 0) = leftG G (out ++ [i]) ((be G i).getD j 0) + 1) (k : Nat) :
    leftJ G out i (j + 1) k = if k = (be G i).getD j 0 then leftG G (out ++ [i]) ((be G i).getD j 0) else leftJ G out i j k := by
  have h1 := take_nd (be_nodup G i) hj
  by_cases e : k = (be G i).getD j 0
  · rw [if_pos e]
    subst e
    unfold leftJ at hat ⊢
    rw [h1.1, if_pos (by simp)]
    rw [if_neg h1.2] at hat
    omega
  · rw [if_neg e]
    unfold leftJ
    rw [h1.1]
    simp only [List.mem_append, List.mem_singleton, e, or_false]
theorem freeJ_step {G : Gr} {out free : List Nat} {i j : Nat} (hj : j < (be G i).length) :
    freeJ G out free i (j + 1) = if leftG G (out ++ [i]) ((be G i).getD j 0) = 0 then freeJ G out free i j ++ [(be G i).getD j 0] else freeJ G out free i j := by
  unfold freeJ
  rw [(take_nd (be_nodup G i) hj).1, List.filter_append]
  by_cases h : leftG G (out ++ [i]) ((be G i).getD j 0) = 0
  · rw [if_pos h, List.append_assoc]
    simp only [List.filter_cons, h, decide_true, if_true, List.filter_nil]
  · rw [if_neg h]
    simp only [List.filter_cons, h, decide_false, Bool.false_eq_true, if_false, List.filter_nil, List.append_nil]
theorem freeJ_end {G : Gr} (hs : Sound G) {out free : List Nat} (hL : Listed G out) (hn : free.Nodup) (hf : ∀ k, k ∈ free ↔ k ∈ freeG G out) {i : Nat} (hi : i ∈ freeG G out) :
    (freeJ G out free i (be G i).length).Nodup ∧ ∀ k, k ∈ freeJ G out free i (be G i).length ↔ k ∈ freeG G (out ++ [i]) := by
  unfold freeJ
  rw [List.take_length]
  constructor
  · rw [List.nodup_append]
    refine ⟨hn.filter _, (be_nodup G i).filter _, fun a ha b hb e => ?_⟩
    subst e
    rw [List.mem_filter] at ha hb
    exact free_apart hs hi ((hf a).1 ha.1) hb.1
  · intro k
    rw [freeG_add hs hL hi, List.mem_append, List.mem_filter, List.mem_filter, ← hf]
    simp
theorem freeJ_lt {G : Gr} {out free : List Nat} (hf : ∀ k, k ∈ free ↔ k ∈ freeG G out) (i j : Nat) : ∀ k ∈ freeJ G out free i j, k < G.length := by
  intro k hk
  unfold freeJ at hk
  rcases List.mem_append.1 hk with h | h
  · rw [List.mem_filter, hf, mem_freeG] at h
    exact h.1.1
  · rw [List.mem_filter] at h
    exact be_lt (List.mem_of_mem_take h.1)
theorem freeJ_len {G : Gr} {out free : List Nat} (hn : free.Nodup) (hf : ∀ k, k ∈ free ↔ k ∈ freeG G out) (i j : Nat) : (freeJ G out free i j).length ≤ G.length + G.length := by
  unfold freeJ
  rw [List.length_append]
  have h1 := List.length_filter_le (fun x => !decide (x = i)) free
  have h2 := nodup_le (List.range G.length) free hn (fun k hk => by rw [hf, mem_freeG] at hk; exact List.mem_range.2 hk.1)
  have h3 := List.length_filter_le (fun k => decide (leftG G (out ++ [i]) k = 0)) ((be G i).take j)
  have h4 : ((be G i).take j).length ≤ (be G i).length := by rw [List.length_take]; omega
  have h5 := nodup_le (List.range G.length) (be G i) (be_nodup G i) (fun k hk => List.mem_range.2 (be_lt hk))
  rw [List.length_range] at h2 h5
  omega

theorem ab_len {G : Gr} (hs : Sound G) (i : Nat) : (ab G i).length ≤ 1024 := by
  have := nodup_le (List.range G.length) (ab G i) (hs.ab_nodup i) (fun k hk => List.mem_range.2 (hs.ab_lt hk).1)
  rw [List.length_range] at this
  have := hs.len
  omega
theorem be_len {G : Gr} (hs : Sound G) (i : Nat) : (be G i).length ≤ 1024 := by
  have := nodup_le (List.range G.length) (be G i) (be_nodup G i) (fun k hk => List.mem_range.2 (be_lt hk))
  rw [List.length_range] at this
  have := hs.len
  omega
theorem leftG_nil (G : Gr) (k : Nat) : leftG G [] k = (ab G k).length := by
  unfold leftG
  rw [List.filter_eq_self.2 (by simp)]
def free0 (G : Gr) (i : Nat) : List Nat := (List.range i).filter fun k => decide ((ab G k).length = 0)
theorem free0_succ (G : Gr) (i : Nat) : free0 G (i + 1) = if (ab G i).length = 0 then free0 G i ++ [i] else free0 G i := by
  unfold free0
  rw [List.range_succ, List.filter_append]
  by_cases h : (ab G i).length = 0
  · rw [if_pos h]; simp only [List.filter_cons, h, decide_true, if_true, List.filter_nil]
  · rw [if_neg h]; simp only [List.filter_cons, h, decide_false, Bool.false_eq_true, if_false, List.filter_nil, List.append_nil]
theorem free0_end {G : Gr} : (free0 G G.length).Nodup ∧ ∀ k, k ∈ free0 G G.length ↔ k ∈ freeG G [] := by
  refine ⟨List.nodup_range.filter _, fun k => ?_⟩
  unfold free0
  rw [List.mem_filter, mem_freeG, List.mem_range, decide_eq_true_eq, List.length_eq_zero_iff]
  constructor
  · rintro ⟨h1, h2⟩
    exact ⟨h1, by simp, fun m hm => by rw [h2] at hm; cases hm⟩
  · rintro ⟨h1, _, h3⟩
    exact ⟨h1, List.eq_nil_iff_forall_not_mem.2 fun m hm => by have := h3 m hm; cases this⟩
theorem free0_len (G : Gr) (i : Nat) : (free0 G i).length ≤ i := by
  unfold free0
  have := List.length_filter_le (fun k => decide ((ab G k).length = 0)) (List.range i)
  rwa [List.length_range] at this

def OrdIni (w : World) (G : Gr) (n : Nat) (f : Nat) (t21 t4 : Value) (wr : World) : Prop :=
  ∃ i : Nat, t21 = .int .i64 (i : Nat) ∧ i ≤ n ∧ f = n - i ∧ Below w.heap.size w wr ∧ wr.rowIs w.heap.size 3 n (oV fun k => if k < i then (ab G k).length else 0) ∧ IRow wr (w.heap.size + 1) t4 (free0 G i)

def OrdOut (w : World) (G : Gr) (n : Nat) (f : Nat) (t4 t5 : Value) (wr : World) : Prop :=
  ∃ free out : List Nat, f = n - out.length ∧ Listed G out ∧ ordTo G (n - out.length) out = ordG G ∧ free.Nodup ∧ (∀ k, k ∈ free ↔ k ∈ freeG G out) ∧
    Below w.heap.size w wr ∧ wr.rowIs w.heap.size 3 n (oV (leftG G out)) ∧ IRow wr (w.heap.size + 1) t4 free ∧ IRow wr (w.heap.size + 1) t5 out ∧ (∀ k, t4.ownBlock = some k → t5.ownBlock ≠ some k)

def OrdIn (w : World) (G : Gr) (n i : Nat) (out free : List Nat) (t5 : Value) (f : Nat) (t66 t4 : Value) (wr : World) : Prop :=
  ∃ j : Nat, t66 = .int .i64 (j : Nat) ∧ j ≤ (be G i).length ∧ f = (be G i).length - j ∧
    Below w.heap.size w wr ∧ wr.rowIs w.heap.size 3 n (oV (leftJ G out i j)) ∧ IRow wr (w.heap.size + 1) t4 (freeJ G out free i j) ∧ IRow wr (w.heap.size + 1) t5 (out ++ [i]) ∧ (∀ k, t4.ownBlock = some k → t5.ownBlock ≠ some k)
end Go.Proofs.YtfegmmafcopbpaaGreatDoor
