/- Plain laws on paths: what is joined is cut again, and the other way round; parents; what lies within. No program in sight. -/
import Derived.Lib.Join
import Derived.Test.YtlpglabhjbfjgaaDoorPieces
namespace Go.Proofs.YtlpglabhjbfjgaaDoor
open Go.RowKit

abbrev jn (L : List (List UInt8)) : List UInt8 := Lib.join L [47]
theorem jn_cons {r : List (List UInt8)} (x : List UInt8) (h : r ≠ []) : jn (x :: r) = x ++ 47 :: jn r := by
  cases r with
  | nil => exact absurd rfl h
  | cons y r => rw [jn, jn, Lib.join_cons, Lib.join_cons]; simp [Lib.joinTail]
theorem jn_push (b : UInt8) (x : List UInt8) (r : List (List UInt8)) : jn ((b :: x) :: r) = b :: jn (x :: r) := by
  rw [jn, jn, Lib.join_cons, Lib.join_cons]; rfl

theorem jn_pcs : ∀ l : List UInt8, jn (pcs 47 l) = l
  | [] => Lib.join_one _ _
  | b :: l => by
    have ih := jn_pcs l
    have hn := pcs_ne 47 l
    rw [pcs]
    split
    · rename_i hb
      rw [jn_cons _ (by rw [hn]; exact List.cons_ne_nil _ _), ih, hb]; rfl
    · rw [jn_push, ← hn, ih]

theorem pcs_flat : ∀ x : List UInt8, 47 ∉ x → pcs 47 x = [x]
  | [], _ => rfl
  | b :: x, h => by
    rw [List.mem_cons, not_or] at h
    rw [pcs, if_neg (Ne.symm h.1), pcs_flat x h.2]; rfl
theorem pcs_app : ∀ (x r : List UInt8), 47 ∉ x → pcs 47 (x ++ 47 :: r) = x :: pcs 47 r
  | [], r, _ => by rw [List.nil_append, pcs, if_pos rfl]
  | b :: x, r, h => by
    rw [List.mem_cons, not_or] at h
    rw [List.cons_append, pcs, if_neg (Ne.symm h.1), pcs_app x r h.2]; rfl
theorem pcs_jn : ∀ L : List (List UInt8), L ≠ [] → (∀ x ∈ L, 47 ∉ x) → pcs 47 (jn L) = L
  | [], h, _ => absurd rfl h
  | [x], _, h => by rw [jn, Lib.join_one]; exact pcs_flat x (h x (List.mem_cons_self ..))
  | x :: y :: r, _, h => by
    rw [jn_cons x (List.cons_ne_nil y r), pcs_app x _ (h x (List.mem_cons_self ..)), pcs_jn (y :: r) (List.cons_ne_nil _ _) fun z hz => h z (List.mem_cons_of_mem _ hz)]

theorem name_slash {x : List UInt8} (h : nameF x = true) : 47 ∉ x := by
  intro hm
  obtain ⟨i, hi, e⟩ := List.mem_iff_getElem.1 hm
  unfold nameF at h
  rw [Bool.and_eq_true] at h
  have h2 := List.all_eq_true.1 h.2 i (List.mem_range.2 hi)
  have e2 : x.getD i 0 = 47 := by rw [List.getD, List.getElem?_eq_getElem hi]; exact e
  unfold atF at h2
  rw [e2] at h2
  have e3 : letF 47 = false := by decide
  have e4 : punF 47 = false := by decide
  rw [e3, e4, Bool.and_false] at h2
  cases h2

/-- the number of Path's error -/
def pathN (L : List (List UInt8)) : Nat := if L = [] then 1 else if L.all nameF then (if 512 < (jn L).length then 3 else 0) else 1
def pathS (L : List (List UInt8)) : List UInt8 := if pathN L = 0 then jn L else []
theorem pathN_zero {L : List (List UInt8)} (h : pathN L = 0) : L ≠ [] ∧ L.all nameF = true ∧ (jn L).length ≤ 512 := by
  unfold pathN at h
  by_cases h1 : L = []
  · rw [if_pos h1] at h; omega
  · rw [if_neg h1] at h
    by_cases h2 : L.all nameF = true
    · rw [if_pos h2] at h
      refine ⟨h1, h2, ?_⟩
      by_cases h3 : 512 < (jn L).length
      · rw [if_pos h3] at h; omega
      · omega
    · rw [if_neg h2] at h; omega
theorem pcs_path {L : List (List UInt8)} (h : pathN L = 0) : pcs 47 (jn L) = L := by
  obtain ⟨h1, h2, _⟩ := pathN_zero h
  exact pcs_jn L h1 fun x hx => name_slash (List.all_eq_true.1 h2 x hx)
theorem parts_path {L : List (List UInt8)} (h : pathN L = 0) : partsF (jn L) = 0 := by
  obtain ⟨h1, h2, h3⟩ := pathN_zero h
  unfold partsF pathF
  rw [if_neg (by omega), pcs_path h, if_pos h2]
theorem partsF_zero {l : List UInt8} (h : partsF l = 0) : l.length ≤ 512 ∧ (pcs 47 l).all nameF = true := by
  unfold partsF pathF at h
  by_cases h1 : 512 < l.length
  · rw [if_pos h1] at h; omega
  · rw [if_neg h1] at h
    by_cases h2 : (pcs 47 l).all nameF = true
    · exact ⟨by omega, h2⟩
    · rw [if_neg h2] at h; omega
theorem pcs_nonnil (l : List UInt8) : pcs 47 l ≠ [] := by rw [pcs_ne]; exact List.cons_ne_nil _ _
theorem path_parts {l : List UInt8} (h : partsF l = 0) : pathN (pcs 47 l) = 0 := by
  obtain ⟨h1, h2⟩ := partsF_zero h
  unfold pathN
  rw [if_neg (pcs_nonnil l), if_pos h2, jn_pcs, if_neg (by omega)]
theorem path_inj {L M : List (List UInt8)} (h : pathN L = 0) (k : pathN M = 0) (e : jn L = jn M) : L = M := by
  rw [← pcs_path h, ← pcs_path k, e]

theorem jn_last : ∀ L : List (List UInt8), 2 ≤ L.length → jn L = jn L.dropLast ++ 47 :: L.getLastD []
  | [], h => by simp at h
  | [x], h => by simp at h
  | [x, y], _ => by rw [jn_cons x (List.cons_ne_nil y [])]; show x ++ 47 :: jn [y] = jn [x] ++ 47 :: y; rw [jn, jn, Lib.join_one, Lib.join_one]
  | x :: y :: z :: r, _ => by
    have ih := jn_last (y :: z :: r) (by simp)
    rw [jn_cons x (List.cons_ne_nil y _), ih]
    have e1 : (x :: y :: z :: r).dropLast = x :: (y :: z :: r).dropLast := rfl
    have e2 : (x :: y :: z :: r).getLastD [] = (y :: z :: r).getLastD [] := by simp [List.getLastD]
    rw [e1, e2, jn_cons x (by simp)]
    simp
theorem jn_take {L : List (List UInt8)} (h : 2 ≤ L.length) : (jn L).take ((jn L).length - (L.getLastD []).length - 1) = jn L.dropLast ∧ (L.getLastD []).length + 1 ≤ (jn L).length := by
  have e := jn_last L h
  have hl := congrArg List.length e
  rw [List.length_append, List.length_cons] at hl
  refine ⟨?_, by omega⟩
  have hk : (jn L).length - (L.getLastD []).length - 1 = (jn L.dropLast).length := by omega
  rw [hk]
  conv => lhs; rw [e]
  rw [List.take_left]

/-- the parent, and whether there is one -/
def hasP (l : List UInt8) : Bool := decide (partsF l = 0) && decide (2 ≤ (pcs 47 l).length)
def parS (l : List UInt8) : List UInt8 := if hasP l then jn (pcs 47 l).dropLast else []
def withF (l d : List UInt8) : Bool := decide (partsF l = 0) && decide (partsF d = 0) && decide ((pcs 47 d).length ≤ (pcs 47 l).length) && decide ((pcs 47 l).take (pcs 47 d).length = pcs 47 d)
theorem par_parts {l : List UInt8} (h : hasP l = true) : pathN (pcs 47 l).dropLast = 0 ∧ partsF (parS l) = 0 ∧ pcs 47 (parS l) = (pcs 47 l).dropLast := by
  have h' := h
  unfold hasP at h
  rw [Bool.and_eq_true, decide_eq_true_eq, decide_eq_true_eq] at h
  obtain ⟨h1, h2⟩ := h
  obtain ⟨h3, h4⟩ := partsF_zero h1
  have hne : (pcs 47 l).dropLast ≠ [] := by
    intro e
    have := congrArg List.length e
    rw [List.length_dropLast] at this
    simp at this
    omega
  have hp : pathN (pcs 47 l).dropLast = 0 := by
    unfold pathN
    have hj := jn_last (pcs 47 l) h2
    rw [jn_pcs] at hj
    have hl := congrArg List.length hj
    rw [List.length_append, List.length_cons] at hl
    rw [if_neg hne, if_pos (List.all_eq_true.2 fun x hx => List.all_eq_true.1 h4 x (List.dropLast_subset _ hx)), if_neg (by omega)]
  unfold parS
  rw [if_pos h']
  exact ⟨hp, parts_path hp, pcs_path hp⟩
theorem par_within {l : List UInt8} (h : hasP l = true) : withF l (parS l) = true ∧ withF (parS l) l = false := by
  obtain ⟨_, h2, h3⟩ := par_parts h
  unfold hasP at h
  rw [Bool.and_eq_true, decide_eq_true_eq, decide_eq_true_eq] at h
  obtain ⟨h4, h5⟩ := h
  unfold withF
  rw [h3, h2, h4]
  have hl : (pcs 47 l).dropLast.length = (pcs 47 l).length - 1 := List.length_dropLast
  constructor
  · rw [decide_eq_true rfl, decide_eq_true (by omega : (pcs 47 l).dropLast.length ≤ (pcs 47 l).length), hl, ← List.dropLast_eq_take, decide_eq_true rfl]; rfl
  · rw [decide_eq_false (by omega : ¬ (pcs 47 l).length ≤ (pcs 47 l).dropLast.length)]; simp
end Go.Proofs.YtlpglabhjbfjgaaDoor
