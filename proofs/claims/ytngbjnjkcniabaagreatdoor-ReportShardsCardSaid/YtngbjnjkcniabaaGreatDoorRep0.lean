/- The lines of a test report, in plain words; no program in sight. -/
import Derived.Test.YtngbjnjkcniabaaGreatDoorPieces
import Derived.Test.YtngbjnjkcniabaaGreatDoorIdent1
namespace Go.Proofs.YtngbjnjkcniabaaGreatDoor

def isDig (b : UInt8) : Bool := decide (48 ≤ b.toNat) && decide (b.toNat ≤ 57)
def digB (l : List UInt8) : Bool := !l.isEmpty && !(decide (1 < l.length) && decide (l.headD 0 = 48)) && l.all isDig
def numV (l : List UInt8) : Nat := l.foldl (fun n b => 10 * n + (b.toNat - 48)) 0
def statV (l : List UInt8) : Nat := if l = [112, 97, 115, 115] then 1 else if l = [102, 97, 105, 108] then 2 else if l = [115, 107, 105, 112] then 3 else 0
/-- a result: name, status, time -/
abbrev TR := List UInt8 × Nat × Nat
/-- the error's number and the result of a line -/
def oneF (l : List UInt8) : Nat × TR :=
  match pcs 32 l with
  | [a, b, c] => if statV a = 0 ∨ partsF b ≠ 0 ∨ digB c = false then (5, ([], 0, 0)) else if 1125899906842624 < numV c then (2, ([], 0, 0)) else (0, (b, statV a, numV c))
  | _ => (5, ([], 0, 0))
/-- the results of a text, the line of the error, the error's number -/
def parseTo : Nat → Nat → List TR → List UInt8 → List TR × Nat × Nat
  | 0, _, acc, _ => (acc, 0, 0)
  | f + 1, n, acc, s =>
    if s = [] then (acc, 0, 0) else
    if 4096 < n then ([], n, 15) else
    if Lib.index s [10] < 0 then ([], n, 5) else
    match oneF (s.take (Lib.index s [10]).toNat) with
    | (0, r) => if r.1 ∈ acc.map (·.1) then ([], n, 7) else parseTo f (n + 1) (acc ++ [r]) (s.drop ((Lib.index s [10]).toNat + 1))
    | (e, _) => ([], n, e)
def parseF (s : List UInt8) : List TR × Nat × Nat := parseTo (s.length + 1) 1 [] s

theorem pcs_last (c b : UInt8) (hb : b ≠ c) : ∀ l : List UInt8, ∃ init x, pcs c (l ++ [b]) = init ++ [x ++ [b]]
  | [] => ⟨[], [], by rw [List.nil_append, pcs, if_neg hb]; rfl⟩
  | a :: l => by
    obtain ⟨init, x, h⟩ := pcs_last c b hb l
    rw [List.cons_append, pcs, h]
    split
    · exact ⟨[] :: init, x, rfl⟩
    · cases init with
      | nil => exact ⟨[], a :: x, rfl⟩
      | cons y init => exact ⟨(a :: y) :: init, x, rfl⟩
/-- a line that ends with a byte that no result holds -/
theorem one_zero (l : List UInt8) : oneF (l ++ [0]) = (5, ([], 0, 0)) := by
  obtain ⟨init, x, h⟩ := pcs_last 32 0 (by decide) l
  unfold oneF
  rw [h]
  have hd : digB (x ++ [0]) = false := by
    unfold digB
    rw [List.all_append]
    simp [isDig]
  rcases init with _ | ⟨a, _ | ⟨b, _ | ⟨c, init⟩⟩⟩
  · rfl
  · rfl
  · show (if statV a = 0 ∨ partsF b ≠ 0 ∨ digB (x ++ [0]) = false then _ else _) = _
    rw [if_pos (.inr (.inr hd))]
  · cases init <;> rfl
/-- the number of a text, as the reference counts it: never more than one beyond the largest time -/
def capV (n : Nat) (b : UInt8) : Nat := if 1125899906842624 < 10 * n + (b.toNat - 48) then 1125899906842625 else 10 * n + (b.toNat - 48)
def capF (l : List UInt8) : Nat := l.foldl capV 0
theorem cap_fold : ∀ (l : List UInt8) (m n : Nat), m = min n 1125899906842625 → l.foldl capV m = min (l.foldl (fun n b => 10 * n + (b.toNat - 48)) n) 1125899906842625
  | [], _, _, h => h
  | b :: l, m, n, h => by
    rw [List.foldl_cons, List.foldl_cons]
    refine cap_fold l _ _ ?_
    unfold capV
    split <;> omega
theorem capF_eq (l : List UInt8) : capF l = min (numV l) 1125899906842625 := cap_fold l 0 0 rfl
theorem capF_big (l : List UInt8) : decide (1125899906842624 < capF l) = decide (1125899906842624 < numV l) := by
  rw [capF_eq, decide_eq_decide]
  omega
theorem capF_small {l : List UInt8} (h : ¬ 1125899906842624 < numV l) : capF l = numV l := by
  rw [capF_eq]
  omega
theorem capF_le (l : List UInt8) : capF l ≤ 1125899906842625 := by rw [capF_eq]; omega
theorem capF_snoc (l : List UInt8) (b : UInt8) : capF (l ++ [b]) = capV (capF l) b := by unfold capF; rw [List.foldl_append]; rfl
/-- the first k bytes of a text are those of a number -/
def digTo (l : List UInt8) (k : Nat) : Bool := (l.take k).all isDig && !(decide (0 < k) && decide (1 < l.length) && decide (l.headD 0 = 48))
theorem digTo_full {l : List UInt8} (h : l ≠ []) : digTo l l.length = digB l := by
  unfold digTo digB
  have h1 : decide (0 < l.length) = true := decide_eq_true (List.length_pos_iff.2 h)
  have h2 : l.isEmpty = false := by cases l with
    | nil => exact absurd rfl h
    | cons a l => rfl
  rw [List.take_length, h1, h2, Bool.true_and, Bool.not_false, Bool.true_and, Bool.and_comm]
end Go.Proofs.YtngbjnjkcniabaaGreatDoor
