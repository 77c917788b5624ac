/- The places that two patterns can reach together: plain facts, no program in sight. -/
import Derived.Test.YtnmbabaihfdljaaReach
namespace Go.Proofs.Ytnmbabaihfdljaa

def nilA : AE := (false, fun _ => false)
def meetA (a b : AE) : Bool := (List.range 256).any fun c => a.2 c && b.2 c

/-- the places that follow a place -/
def sucA (A B : List AE) (p : Nat × Nat) : List (Nat × Nat) :=
  (if p.1 < A.length ∧ (A.getD p.1 nilA).1 = true then [(p.1 + 1, p.2)] else []) ++
  (if p.2 < B.length ∧ (B.getD p.2 nilA).1 = true then [(p.1, p.2 + 1)] else []) ++
  (if p.1 < A.length ∧ p.2 < B.length ∧ meetA (A.getD p.1 nilA) (B.getD p.2 nilA) = true then [(if (A.getD p.1 nilA).1 then p.1 else p.1 + 1, if (B.getD p.2 nilA).1 then p.2 else p.2 + 1)] else [])

/-- can a place be reached? -/
def Reach (A B : List AE) (q : Nat × Nat) : Prop := ∀ T : Nat × Nat → Prop, T (0, 0) → (∀ p r, T p → r ∈ sucA A B p → T r) → T q

theorem Reach.zero (A B : List AE) : Reach A B (0, 0) := fun _ h _ => h
theorem Reach.step {A B : List AE} {p r : Nat × Nat} (h : Reach A B p) (hr : r ∈ sucA A B p) : Reach A B r := fun T h0 hs => hs p r (h T h0 hs) hr

theorem sucA_bd {A B : List AE} {p r : Nat × Nat} (h1 : p.1 ≤ A.length) (h2 : p.2 ≤ B.length) (hr : r ∈ sucA A B p) : r.1 ≤ A.length ∧ r.2 ≤ B.length := by
  unfold sucA at hr
  simp only [List.mem_append] at hr
  rcases hr with (hr | hr) | hr <;> split at hr
  · simp at hr; subst hr; simp; omega
  · cases hr
  · simp at hr; subst hr; simp; omega
  · cases hr
  · simp at hr; subst hr; simp; (repeat' split) <;> omega
  · cases hr

def addAll : List (Nat × Nat) × List (Nat × Nat) → List (Nat × Nat) → List (Nat × Nat) × List (Nat × Nat)
  | so, [] => so
  | so, q :: l => addAll (addS so.1 q, addO so.1 so.2 q) l

theorem mem_addS {S : List (Nat × Nat)} {p q : Nat × Nat} : q ∈ addS S p ↔ q ∈ S ∨ q = p := by
  unfold addS
  split
  · rename_i h
    constructor
    · exact .inl
    · rintro (h' | rfl)
      · exact h'
      · exact h
  · simp

theorem addAll_spec : ∀ (l : List (Nat × Nat)) (S O : List (Nat × Nat)), S.Nodup →
    (∀ q, q ∈ (addAll (S, O) l).1 ↔ q ∈ S ∨ q ∈ l) ∧ (∀ q, q ∈ O → q ∈ (addAll (S, O) l).2) ∧ (∀ q, q ∈ (addAll (S, O) l).2 → q ∈ O ∨ q ∈ l) ∧ (∀ q, q ∈ l → q ∈ S ∨ q ∈ (addAll (S, O) l).2) ∧ (addAll (S, O) l).1.Nodup ∧
      (addAll (S, O) l).2.length + S.length = O.length + (addAll (S, O) l).1.length := by
  intro l
  induction l with
  | nil => intro S O h; simp [addAll, h]
  | cons p l ih =>
    intro S O h
    have hn : (addS S p).Nodup := by
      unfold addS
      split
      · exact h
      · rename_i hp
        rw [List.nodup_append]
        exact ⟨h, by simp, by intro a ha b hb; simp at hb; subst hb; rintro rfl; exact hp ha⟩
    obtain ⟨i1, i2, i3, i4, i5, i6⟩ := ih (addS S p) (addO S O p) hn
    have hO : ∀ q, q ∈ O → q ∈ addO S O p := by
      intro q hq
      unfold addO
      split
      · exact hq
      · simp [hq]
    simp only [addAll]
    refine ⟨?_, ?_, ?_, ?_, i5, ?_⟩
    · intro q
      rw [i1, mem_addS, List.mem_cons]
      constructor
      · rintro ((h | h) | h)
        · exact .inl h
        · exact .inr (.inl h)
        · exact .inr (.inr h)
      · rintro (h | h | h)
        · exact .inl (.inl h)
        · exact .inl (.inr h)
        · exact .inr h
    · intro q hq; exact i2 q (hO q hq)
    · intro q hq
      rcases i3 q hq with h | h
      · unfold addO at h
        split at h
        · exact .inl h
        · rcases List.mem_append.1 h with h | h
          · exact .inl h
          · simp at h; right; simp [h]
      · right; simp [h]
    · intro q hq
      rcases List.mem_cons.1 hq with rfl | hq
      · by_cases hs : q ∈ S
        · exact .inl hs
        · right; apply i2; unfold addO; rw [if_neg hs]; simp
      · rcases i4 q hq with h | h
        · rcases mem_addS.1 h with h | rfl
          · exact .inl h
          · by_cases hs : q ∈ S
            · exact .inl hs
            · right; apply i2; unfold addO; rw [if_neg hs]; simp
        · exact .inr h
    · have e : (addO S O p).length + S.length = O.length + (addS S p).length := by
        unfold addO addS
        split <;> simp; omega
      omega

structure Inv (A B : List AE) (S O : List (Nat × Nat)) : Prop where
  nd : S.Nodup
  bd : ∀ q ∈ S, q.1 ≤ A.length ∧ q.2 ≤ B.length
  zero : (0, 0) ∈ S
  sub : ∀ q ∈ O, q ∈ S
  re : ∀ q ∈ S, Reach A B q
  done : ∀ q ∈ S, ¬ q ∈ O → q ≠ (A.length, B.length) ∧ ∀ r ∈ sucA A B q, r ∈ S

theorem Inv.start (A B : List AE) : Inv A B [(0, 0)] [(0, 0)] :=
  ⟨by simp, by simp, by simp, by simp, by intro q hq; simp at hq; subst hq; exact Reach.zero _ _, by intro q hq hn; exact (hn hq).elim⟩

theorem Inv.next {A B : List AE} {S O : List (Nat × Nat)} {p : Nat × Nat} (h : Inv A B S (O ++ [p])) (hp : p ≠ (A.length, B.length)) :
    Inv A B (addAll (S, O) (sucA A B p)).1 (addAll (S, O) (sucA A B p)).2 := by
  obtain ⟨i1, i2, i3, i4, i5, i6⟩ := addAll_spec (sucA A B p) S O h.nd
  have hpS : p ∈ S := h.sub p (by simp)
  refine ⟨i5, ?_, (i1 _).2 (.inl h.zero), ?_, ?_, ?_⟩
  · intro q hq
    rcases (i1 q).1 hq with hq | hq
    · exact h.bd q hq
    · exact sucA_bd (h.bd p hpS).1 (h.bd p hpS).2 hq
  · intro q hq
    rcases i3 q hq with hq | hq
    · exact (i1 q).2 (.inl (h.sub q (by simp [hq])))
    · exact (i1 q).2 (.inr hq)
  · intro q hq
    rcases (i1 q).1 hq with hq | hq
    · exact h.re q hq
    · exact (h.re p hpS).step hq
  · intro q hq hn
    rcases (i1 q).1 hq with hqS | hql
    · by_cases hqp : q = p
      · subst hqp
        exact ⟨hp, fun r hr => (i1 r).2 (.inr hr)⟩
      · have : ¬ q ∈ O ++ [p] := by
          intro hm
          rcases List.mem_append.1 hm with hm | hm
          · exact hn (i2 q hm)
          · simp at hm; exact hqp hm
        obtain ⟨d1, d2⟩ := h.done q hqS this
        exact ⟨d1, fun r hr => (i1 r).2 (.inl (d2 r hr))⟩
    · rcases i4 q hql with hqS | hqO
      · by_cases hqp : q = p
        · subst hqp
          exact ⟨hp, fun r hr => (i1 r).2 (.inr hr)⟩
        · have : ¬ q ∈ O ++ [p] := by
            intro hm
            rcases List.mem_append.1 hm with hm | hm
            · exact hn (i2 q hm)
            · simp at hm; exact hqp hm
          obtain ⟨d1, d2⟩ := h.done q hqS this
          exact ⟨d1, fun r hr => (i1 r).2 (.inl (d2 r hr))⟩
      · exact (hn hqO).elim

theorem Inv.no {A B : List AE} {S : List (Nat × Nat)} (h : Inv A B S []) : ¬ Reach A B (A.length, B.length) := by
  intro hr
  have hin : (A.length, B.length) ∈ S := hr (fun q => q ∈ S) h.zero (fun p r hp hr => (h.done p hp (by simp)).2 r hr)
  exact (h.done _ hin (by simp)).1 rfl

theorem Inv.yes {A B : List AE} {S O : List (Nat × Nat)} (h : Inv A B S (O ++ [(A.length, B.length)])) : Reach A B (A.length, B.length) :=
  h.re _ (h.sub _ (by simp))

theorem nodup_le : ∀ (l S : List (Nat × Nat)), S.Nodup → (∀ q ∈ S, q ∈ l) → S.length ≤ l.length := by
  intro l
  induction l with
  | nil =>
    intro S _ h
    cases S with
    | nil => simp
    | cons q S => exact absurd (h q (by simp)) (by simp)
  | cons a l ih =>
    intro S hn h
    by_cases ha : a ∈ S
    · have h1 : (S.erase a).length ≤ l.length := ih (S.erase a) (hn.erase a) (by
        intro q hq
        have hqS := List.mem_of_mem_erase hq
        rcases List.mem_cons.1 (h q hqS) with rfl | hql
        · exact absurd hq (fun hq => (List.Nodup.mem_erase_iff hn).1 hq |>.1 rfl)
        · exact hql)
      have h2 := List.length_erase_of_mem ha
      simp; omega
    · have := ih S hn (by
        intro q hq
        rcases List.mem_cons.1 (h q hq) with rfl | hql
        · exact (ha hq).elim
        · exact hql)
      simp; omega

theorem grid_le {n m : Nat} {S : List (Nat × Nat)} (hn : S.Nodup) (hb : ∀ q ∈ S, q.1 ≤ n ∧ q.2 ≤ m) : S.length ≤ (n + 1) * (m + 1) := by
  have := nodup_le ((List.range (n + 1)).flatMap fun i => (List.range (m + 1)).map fun k => (i, k)) S hn (by
    intro q hq
    obtain ⟨h1, h2⟩ := hb q hq
    simp only [List.mem_flatMap, List.mem_map, List.mem_range]
    exact ⟨q.1, by omega, q.2, by omega, rfl⟩)
  have e : ((List.range (n + 1)).flatMap fun i => (List.range (m + 1)).map fun k => (i, k)).length = (n + 1) * (m + 1) := by
    rw [List.length_flatMap]
    simp [List.map_const']
  omega
end Go.Proofs.Ytnmbabaihfdljaa
