/- The places of the reference, and the string that leads to one. No program in sight. -/
import Derived.Test.YtnmbabaihfdljaaPlain5
import Derived.Test.YtnmbabaihfdljaaWit2
namespace Go.Proofs.Ytnmbabaihfdljaa
open Bs

/-- how a place follows one -/
def Follows (A B : List AE) (p q : Plc) : Prop :=
  (q.moved = false ∧ p.a < A.length ∧ (A.getD p.a noA).1 = true ∧ q.a = p.a + 1 ∧ q.b = p.b) ∨
  (q.moved = false ∧ p.b < B.length ∧ (B.getD p.b noA).1 = true ∧ q.a = p.a ∧ q.b = p.b + 1) ∨
  (q.moved = true ∧ p.a < A.length ∧ p.b < B.length ∧ (A.getD p.a noA).2 q.byte = true ∧ (B.getD p.b noA).2 q.byte = true ∧
    q.a = (if (A.getD p.a noA).1 then p.a else p.a + 1) ∧ q.b = (if (B.getD p.b noA).1 then p.b else p.b + 1))

theorem Follows.suc {A B : List AE} {p q : Plc} (h : Follows A B p q) (hq : q.byte < 256) : (q.a, q.b) ∈ sucA A B (p.a, p.b) := by
  rcases h with ⟨_, h1, h2, h3, h4⟩ | ⟨_, h1, h2, h3, h4⟩ | ⟨_, h1, h2, h3, h4, h5, h6⟩
  · rw [h3, h4]; exact sucA_left h1 h2
  · rw [h3, h4]; exact sucA_right h1 h2
  · rw [h5, h6]; exact sucA_both h1 h2 (meetA_of hq h3 h4)

/-- the rows of places while they grow; the first i are done -/
structure PInv (A B : List AE) (ps : List Plc) (i : Nat) : Prop where
  first : ∃ r, ps = ⟨0, 0, 0, false, 0⟩ :: r
  nd : (ps.map fun p => (p.a, p.b)).Nodup
  bd : ∀ p ∈ ps, p.a ≤ A.length ∧ p.b ≤ B.length ∧ p.byte < 256
  how : ∀ k, 0 < k → ∀ q, ps[k]? = some q → ∃ x, q.from_ < k ∧ ps[q.from_]? = some x ∧ Follows A B x q
  cl : ∀ j, j < i → ∀ hj : j < ps.length, ∀ r, r ∈ sucA A B (ps[j].a, ps[j].b) → ∃ q ∈ ps, (q.a, q.b) = r

theorem PInv.start (A B : List AE) : PInv A B [⟨0, 0, 0, false, 0⟩] 0 :=
  ⟨⟨[], rfl⟩, (by simp), (by intro p hp; simp at hp; subst hp; simp), (by intro k h1 q h2; rw [List.getElem?_eq_none (by simp; omega)] at h2; cases h2), (by intro j h; omega)⟩

theorem mem_putL {ps : List Plc} {p q : Plc} (h : q ∈ ps) : q ∈ putL ps p := by
  unfold putL
  split
  · exact h
  · simp [h]

theorem has_putL (ps : List Plc) (p : Plc) : ∃ q ∈ putL ps p, (q.a, q.b) = (p.a, p.b) := by
  unfold putL
  split
  · rename_i h
    unfold hasL at h
    rw [List.any_eq_true] at h
    obtain ⟨q, hq, h⟩ := h
    exact ⟨q, hq, by simpa using h⟩
  · exact ⟨p, by simp, rfl⟩

theorem putL_get {ps : List Plc} {p : Plc} {j : Nat} (hj : j < ps.length) : ∃ h : j < (putL ps p).length, (putL ps p)[j] = ps[j] := by
  unfold putL
  split
  · exact ⟨hj, rfl⟩
  · exact ⟨by simp; omega, by rw [List.getElem_append_left hj]⟩

theorem PInv.put {A B : List AE} {ps : List Plc} {i : Nat} (h : PInv A B ps i) {p : Plc} {j : Nat} (hj : j < ps.length) (hfrom : p.from_ = j) (hfol : Follows A B ps[j] p) (hbd : p.a ≤ A.length ∧ p.b ≤ B.length ∧ p.byte < 256) (hi : i ≤ ps.length) :
    PInv A B (putL ps p) i := by
  by_cases hh : hasL ps p = true
  · have : putL ps p = ps := by unfold putL; rw [if_pos hh]
    rw [this]; exact h
  · have e : putL ps p = ps ++ [p] := by unfold putL; rw [if_neg hh]
    rw [e]
    obtain ⟨r, hr⟩ := h.first
    refine ⟨⟨r ++ [p], by rw [hr]; rfl⟩, ?_, ?_, ?_, ?_⟩
    · rw [List.map_append, List.nodup_append]
      refine ⟨h.nd, by simp, ?_⟩
      intro x hx y hy
      simp only [List.map_cons, List.map_nil, List.mem_singleton] at hy
      subst hy
      rintro rfl
      apply hh
      obtain ⟨q, hq, hq2⟩ := List.mem_map.1 hx
      unfold hasL
      rw [List.any_eq_true]
      exact ⟨q, hq, by simpa using hq2⟩
    · intro q hq
      rcases List.mem_append.1 hq with hq | hq
      · exact h.bd q hq
      · simp at hq; subst hq; exact hbd
    · intro k hk0 q hq
      by_cases hkl : k < ps.length
      · rw [List.getElem?_append_left hkl] at hq
        obtain ⟨x, h1, h2, h3⟩ := h.how k hk0 q hq
        exact ⟨x, h1, by rw [List.getElem?_append_left (by omega)]; exact h2, h3⟩
      · by_cases hke : k = ps.length
        · subst hke
          have e1 : (ps ++ [p])[ps.length]? = some p := by simp
          rw [e1] at hq
          injection hq with hq
          subst hq
          refine ⟨ps[j], by omega, ?_, hfol⟩
          rw [hfrom, List.getElem?_append_left hj, List.getElem?_eq_getElem hj]
        · rw [List.getElem?_eq_none (by simp; omega)] at hq
          cases hq
    · intro k hk hkl r hr
      have hkl' : k < ps.length := by omega
      rw [List.getElem_append_left hkl'] at hr
      obtain ⟨q, hq, hq2⟩ := h.cl k hk hkl' r hr
      exact ⟨q, by simp [hq], hq2⟩

theorem PInv.len {A B : List AE} {ps : List Plc} {i : Nat} (h : PInv A B ps i) : ps.length ≤ (A.length + 1) * (B.length + 1) := by
  have := grid_le (S := ps.map fun p => (p.a, p.b)) h.nd (n := A.length) (m := B.length) (by
    intro q hq
    obtain ⟨p, hp, rfl⟩ := List.mem_map.1 hq
    exact ⟨(h.bd p hp).1, (h.bd p hp).2.1⟩)
  simpa using this

/-- all is done: the places are those that can be reached -/
theorem PInv.all {A B : List AE} {ps : List Plc} {i : Nat} (h : PInv A B ps i) (hi : ps.length ≤ i) {r : Nat × Nat} (hr : Reach A B r) : ∃ q ∈ ps, (q.a, q.b) = r := by
  refine hr (fun r => ∃ q ∈ ps, (q.a, q.b) = r) ?_ ?_
  · obtain ⟨r, hr⟩ := h.first
    exact ⟨⟨0, 0, 0, false, 0⟩, by rw [hr]; simp, rfl⟩
  · rintro p r ⟨q, hq, rfl⟩ hr
    obtain ⟨j, hj, rfl⟩ := List.getElem_of_mem hq
    exact h.cl j (by omega) hj r hr

/-- from place i of the elements on, s leads to the end -/
def Leads (A : List AE) (i : Nat) (s : List UInt8) : Prop :=
  ∀ pre : List UInt8, (∀ T, Closed A (pre ++ s) T → T i pre.length) → matchF A (pre ++ s) = true

theorem Leads.end_ (A : List AE) : Leads A A.length [] := by
  intro pre h
  apply matchF_complete
  intro T hT
  have := h T hT
  simpa using this

theorem Leads.skip_ {A : List AE} {i : Nat} {s : List UInt8} (h : Leads A (i + 1) s) (hi : i < A.length) (hm : (A.getD i noA).1 = true) : Leads A i s := by
  intro pre hp
  exact h pre fun T hT => hT.2.1 i pre.length hi (by simp) hm (hp T hT)

theorem Leads.byte {A : List AE} {i i' : Nat} {c : UInt8} {s : List UInt8} (h : Leads A i' s) (hi : i < A.length) (hf : (A.getD i noA).2 c.toNat = true) (he : i' = if (A.getD i noA).1 then i else i + 1) : Leads A i (c :: s) := by
  intro pre hp
  have := h (pre ++ [c]) ?_
  · simpa using this
  · intro T hT
    have e : pre ++ [c] ++ s = pre ++ c :: s := by simp
    rw [e] at hT
    have hc : (pre ++ c :: s).getD pre.length 0 = c := by simp [List.getD]
    have := hT.2.2 i pre.length hi (by simp) (by rw [hc]; exact hf) (hp T hT)
    rw [he]
    simpa using this

theorem Leads.all {A : List AE} {s : List UInt8} (h : Leads A 0 s) : matchF A s = true := by
  have := h [] fun T hT => hT.1
  simpa using this
end Go.Proofs.Ytnmbabaihfdljaa
