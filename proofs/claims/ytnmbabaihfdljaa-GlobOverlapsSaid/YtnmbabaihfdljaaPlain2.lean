/- The plain laws of the matching: both sides answer alike; what a matching means. No program in sight. -/
import Derived.Test.YtnmbabaihfdljaaPlain
import Derived.Test.YtnmbabaihfdljaaAny
import Derived.Test.YtnmbabaihfdljaaLit2
namespace Go.Proofs.Ytnmbabaihfdljaa
open Bs

abbrev noA : AE := (false, fun _ => false)

/-- two rows of elements that match alike -/
structure Alike (A B : List AE) : Prop where
  len : A.length = B.length
  many : ∀ i, (A.getD i noA).1 = (B.getD i noA).1
  fits : ∀ i c, c < 256 → (A.getD i noA).2 c = (B.getD i noA).2 c

theorem SameL.length : ∀ {L : List El} {M : List RE}, SameL L M → L.length = M.length
  | [], [], _ => rfl
  | _ :: _, _ :: _, h => by simp [SameL.length h.2]
  | [], _ :: _, h => h.elim
  | _ :: _, [], h => h.elim

theorem SameL.get : ∀ {L : List El} {M : List RE}, SameL L M → ∀ i, ((absE L).getD i noA).1 = ((M.map RE.abs).getD i noA).1 ∧ ∀ c, c < 256 → ((absE L).getD i noA).2 c = ((M.map RE.abs).getD i noA).2 c
  | [], [], _, i => by simp
  | E :: L, e :: M, h, 0 => by
    obtain ⟨⟨h1, h2, h3, h4⟩, _⟩ := h
    refine ⟨h1, h2⟩
  | E :: L, e :: M, h, i + 1 => by
    have := SameL.get h.2 i
    simpa [absE] using this
  | [], _ :: _, h, _ => h.elim
  | _ :: _, [], h, _ => h.elim

theorem SameL.alike {L : List El} {M : List RE} (h : SameL L M) : Alike (absE L) (M.map RE.abs) :=
  ⟨by simp [absE, h.length], fun i => (h.get i).1, fun i => (h.get i).2⟩

theorem closeTo_alike {A B : List AE} (h : Alike A B) (on : List Bool) (k : Nat) : closeTo A on k = closeTo B on k := by
  induction k with
  | zero => rfl
  | succ k ih => rw [closeTo, closeTo, ih, h.many k]

theorem stepTo_alike {A B : List AE} (h : Alike A B) (on : List Bool) (c : Nat) (hc : c < 256) (k : Nat) : stepTo A on c k = stepTo B on c k := by
  induction k with
  | zero => rw [stepTo, stepTo, h.len]
  | succ k ih => rw [stepTo, stepTo, ih, h.many k, h.fits k c hc]

theorem onAt_alike {A B : List AE} (h : Alike A B) (l : List UInt8) (k : Nat) : onAt A l k = onAt B l k := by
  induction k with
  | zero => rw [onAt, onAt, h.len]
  | succ k ih => rw [onAt, onAt, ih, closeTo_alike h, h.len, stepTo_alike h _ _ (UInt8.toNat_lt _)]

theorem matchF_alike {A B : List AE} (h : Alike A B) (l : List UInt8) : matchF A l = matchF B l := by
  unfold matchF
  rw [onAt_alike h, closeTo_alike h, h.len]

theorem gmatch_same (p s : List UInt8) : gmatchF p s = rmatchF p s := by
  unfold gmatchF rmatchF
  split
  · rfl
  · have h := els_same p
    cases h1 : els p <;> cases h2 : rels p <;> rw [h1, h2] at h
    · exact h.elim
    · exact h.elim
    · exact matchF_alike h.alike s

theorem gany_same (ss : List ByteArray) (s : List UInt8) : ∀ k, k ≤ ss.length → ganyTo ss s k = ranyF (ss.take k) s := by
  intro k
  induction k with
  | zero => intro _; rfl
  | succ k ih =>
    intro hk
    rw [ranyF_snoc (by omega), ← ih (by omega), ganyTo]
    have e : ss.getD k ByteArray.empty = ss[k] := by simp [List.getD, show k < ss.length by omega]
    rw [e]
    by_cases h : ss[k].data.toList.head? = some 33
    · have h' : exceptF ss[k].data.toList = true := by simp [exceptF, h]
      rw [bodyF, if_pos h', h', if_pos h, gmatch_same]
      rfl
    · have h' : exceptF ss[k].data.toList = false := by simp [exceptF, h]
      have e2 : bodyF ss[k].data.toList = ss[k].data.toList := by rw [bodyF, h']; rfl
      rw [e2, h', if_neg h, gmatch_same]
      rfl

theorem litGo_same : ∀ {L : List El} {M : List RE}, SameL L M → litGo L = rlitGo M
  | [], [], _ => rfl
  | E :: L, e :: M, h => by
    obtain ⟨⟨h1, h2, h3, h4⟩, h5⟩ := h
    rw [litGo, rlitGo, litGo_same h5]
    by_cases hk : e.kind = 5
    · rw [if_pos hk, if_pos (by rw [h3]; simp [hk]), h4 hk]; rfl
    · rw [if_neg hk, if_neg (by rw [h3]; simp [hk])]
  | [], _ :: _, h => h.elim
  | _ :: _, [], h => h.elim

theorem literal_same (p : List UInt8) : literalF p = rliteralF p := by
  unfold literalF rliteralF
  split
  · rfl
  · have h := els_same p
    cases h1 : els p <;> cases h2 : rels p <;> rw [h1, h2] at h
    · exact h.elim
    · exact h.elim
    · exact litGo_same h

/- what the vectors mean -/
theorem getD_set (on : List Bool) (j i : Nat) : (on.set j true).getD i false = (on.getD i false || (decide (i = j) && decide (i < on.length))) := by
  simp only [List.getD, List.getElem?_set]
  by_cases h : j = i
  · subst h
    by_cases hl : j < on.length
    · simp [hl]
    · simp [hl]
  · have h' : ¬ i = j := fun e => h e.symm
    simp [h, h']

/-- what holds of the places before holds of the places after -/
theorem closeTo_ind {A : List AE} {on : List Bool} {R : Nat → Prop} (h0 : ∀ i, on.getD i false = true → R i) (hs : ∀ i, i < A.length → (A.getD i noA).1 = true → R i → R (i + 1)) :
    ∀ k, k ≤ A.length → ∀ i, (closeTo A on k).getD i false = true → R i := by
  intro k
  induction k with
  | zero => intro _; exact h0
  | succ k ih =>
    intro hk i hi
    rw [closeTo] at hi
    split at hi
    · rename_i h
      simp only [Bool.and_eq_true] at h
      rw [getD_set] at hi
      simp only [Bool.or_eq_true, Bool.and_eq_true, decide_eq_true_eq] at hi
      rcases hi with hi | ⟨rfl, _⟩
      · exact ih (by omega) i hi
      · exact hs k hk h.2 (ih (by omega) k h.1)
    · exact ih (by omega) i hi

theorem closeTo_mono {A : List AE} {on : List Bool} : ∀ k j i, (closeTo A on k).getD i false = true → (closeTo A on (k + j)).getD i false = true := by
  intro k j
  induction j with
  | zero => intro i h; exact h
  | succ j ih =>
    intro i h
    rw [← Nat.add_assoc, closeTo]
    split
    · rw [getD_set, ih i h]; rfl
    · exact ih i h

/-- a place at or before k gets no light after step k -/
theorem closeTo_late {A : List AE} {on : List Bool} : ∀ j k i, i ≤ k → (closeTo A on (k + j)).getD i false = (closeTo A on k).getD i false := by
  intro j
  induction j with
  | zero => intro k i _; rfl
  | succ j ih =>
    intro k i h
    rw [← Nat.add_assoc, closeTo]
    split
    · rw [getD_set, ih k i h]
      have : ¬ i = k + j + 1 := by omega
      simp [this]
    · exact ih k i h

theorem closeTo_base {A : List AE} {on : List Bool} {k i : Nat} (h : on.getD i false = true) : (closeTo A on k).getD i false = true := by
  have := closeTo_mono (A := A) (on := on) 0 k i h
  rwa [Nat.zero_add] at this

theorem closeTo_closed {A : List AE} {on : List Bool} (hl : on.length = A.length + 1) {i : Nat} (hi : i < A.length) (hm : (A.getD i noA).1 = true) (h : (closeTo A on A.length).getD i false = true) :
    (closeTo A on A.length).getD (i + 1) false = true := by
  have e : A.length = (i + 1) + (A.length - (i + 1)) := by omega
  have e0 : A.length = i + (A.length - i) := by omega
  have h1 : (closeTo A on i).getD i false = true := by
    rw [e0, closeTo_late _ _ _ (Nat.le_refl _)] at h
    exact h
  rw [e]
  apply closeTo_mono
  rw [closeTo, if_pos (by rw [h1, hm]; rfl), getD_set, closeTo_length, hl]
  have : i + 1 < A.length + 1 := by omega
  simp [this]

theorem stepTo_inv {A : List AE} {on : List Bool} {c : Nat} : ∀ k, k ≤ A.length → ∀ i, (stepTo A on c k).getD i false = true →
    ∃ j, j < k ∧ on.getD j false = true ∧ (A.getD j noA).2 c = true ∧ i = if (A.getD j noA).1 then j else j + 1 := by
  intro k
  induction k with
  | zero =>
    intro _ i h
    rw [stepTo] at h
    simp only [List.getD, List.getElem?_replicate] at h
    split at h <;> simp at h
  | succ k ih =>
    intro hk i h
    have old : (stepTo A on c k).getD i false = true → ∃ j, j < k + 1 ∧ on.getD j false = true ∧ (A.getD j noA).2 c = true ∧ i = if (A.getD j noA).1 then j else j + 1 := by
      intro h
      obtain ⟨j, h1, h2⟩ := ih (by omega) i h
      exact ⟨j, by omega, h2⟩
    rw [stepTo] at h
    split at h
    · rename_i hc
      simp only [Bool.and_eq_true] at hc
      split at h
      · rename_i hm
        rw [getD_set] at h
        simp only [Bool.or_eq_true, Bool.and_eq_true, decide_eq_true_eq] at h
        rcases h with h | ⟨rfl, _⟩
        · exact old h
        · exact ⟨i, by omega, hc.1, hc.2, by rw [if_pos hm]⟩
      · rename_i hm
        rw [getD_set] at h
        simp only [Bool.or_eq_true, Bool.and_eq_true, decide_eq_true_eq] at h
        rcases h with h | ⟨rfl, _⟩
        · exact old h
        · exact ⟨k, by omega, hc.1, hc.2, by rw [if_neg hm]⟩
    · exact old h

theorem stepTo_mem {A : List AE} {on : List Bool} {c : Nat} {j : Nat} (ho : on.getD j false = true) (hf : (A.getD j noA).2 c = true) : ∀ k, j < k → k ≤ A.length →
    (stepTo A on c k).getD (if (A.getD j noA).1 then j else j + 1) false = true := by
  intro k
  induction k with
  | zero => intro h; omega
  | succ k ih =>
    intro h hk
    rw [stepTo]
    by_cases e : j = k
    · subst e
      rw [if_pos (by rw [ho, hf]; rfl)]
      split <;> rw [getD_set, stepTo_length]
      · have : j < A.length + 1 := by omega
        simp [this]
      · have : j + 1 < A.length + 1 := by omega
        simp [this]
    · have := ih (by omega) (by omega)
      split
      · split <;> rw [getD_set, this] <;> rfl
      · exact this

/-- the places that a reader of l can stand at -/
def Closed (A : List AE) (l : List UInt8) (T : Nat → Nat → Prop) : Prop :=
  T 0 0 ∧ (∀ i k, i < A.length → k ≤ l.length → (A.getD i noA).1 = true → T i k → T (i + 1) k) ∧
    ∀ i k, i < A.length → k < l.length → (A.getD i noA).2 (l.getD k 0).toNat = true → T i k → T (if (A.getD i noA).1 then i else i + 1) (k + 1)

theorem onAt_sound {A : List AE} {l : List UInt8} {T : Nat → Nat → Prop} (hT : Closed A l T) : ∀ k, k ≤ l.length →
    ∀ i, (closeTo A (onAt A l k) A.length).getD i false = true → T i k := by
  intro k
  induction k with
  | zero =>
    intro hk
    refine closeTo_ind ?_ (fun i hi hm h => hT.2.1 i 0 hi (Nat.zero_le _) hm h) _ (Nat.le_refl _)
    intro i h
    rw [onAt, getD_set] at h
    simp only [Bool.or_eq_true, Bool.and_eq_true, decide_eq_true_eq] at h
    rcases h with h | ⟨rfl, _⟩
    · simp only [List.getD, List.getElem?_replicate] at h
      split at h <;> simp at h
    · exact hT.1
  | succ k ih =>
    intro hk
    refine closeTo_ind ?_ (fun i hi hm h => hT.2.1 i (k + 1) hi hk hm h) _ (Nat.le_refl _)
    intro i h
    rw [onAt] at h
    obtain ⟨j, h1, h2, h3, rfl⟩ := stepTo_inv _ (Nat.le_refl _) i h
    exact hT.2.2 j k h1 hk h3 (ih (by omega) j h2)

/-- a string that matches stands at the end in every closed set of places -/
theorem matchF_sound {A : List AE} {l : List UInt8} (h : matchF A l = true) {T : Nat → Nat → Prop} (hT : Closed A l T) : T A.length l.length :=
  onAt_sound hT _ (Nat.le_refl _) _ h

theorem lit_closed (A : List AE) (l : List UInt8) : Closed A l fun i k => k ≤ l.length → i ≤ A.length → (closeTo A (onAt A l k) A.length).getD i false = true := by
  refine ⟨fun _ _ => ?_, fun i k hi hk hm h _ _ => ?_, fun i k hi hk hf h _ _ => ?_⟩
  · apply closeTo_base
    rw [onAt, getD_set]
    simp
  · exact closeTo_closed (onAt_length _ _ _) hi hm (h hk (by omega))
  · apply closeTo_base
    rw [onAt]
    exact stepTo_mem (h (by omega) (by omega)) hf _ hi (Nat.le_refl _)

/-- and a place that every closed set holds is a matching -/
theorem matchF_complete {A : List AE} {l : List UInt8} (h : ∀ T, Closed A l T → T A.length l.length) : matchF A l = true :=
  h _ (lit_closed A l) (Nat.le_refl _) (Nat.le_refl _)
end Go.Proofs.Ytnmbabaihfdljaa
