/- Whether a text is a decimal number: what the search for a rune finds. Plain. -/
import Derived.Test.YtngbjnjkcniabaaGreatDoorRep0
import Derived.Laws.RangeString
import Derived.Laws.RangeAny
import Derived.Shelf.GgClosure.StringsIndexFuncTop
import Derived.Lib.AtoiAll
namespace Go.Proofs.YtngbjnjkcniabaaGreatDoor
open Go.RowKit

def notDig (r : Nat) : Bool := decide (r < 48) || decide (57 < r)
theorem notDig_byte (b : UInt8) : notDig b.toNat = !isDig b := by
  unfold notDig isDig
  by_cases h1 : b.toNat < 48
  · simp [h1, show ¬ 48 ≤ b.toNat by omega]
  · by_cases h2 : 57 < b.toNat
    · simp [h2, show ¬ b.toNat ≤ 57 by omega]
    · simp [h1, h2, show 48 ≤ b.toNat by omega, show b.toNat ≤ 57 by omega]
theorem idx_digits (s : ByteArray) : ∀ (f pos : Nat), s.size ≤ pos + f → decide (0 ≤ Lib.idxFuncFrom notDig true s f pos) = !((s.data.toList.drop pos).all isDig)
  | 0, pos, h => by
    rw [List.drop_eq_nil_of_le (by rw [← Lib.size_eq]; omega)]
    rfl
  | f + 1, pos, h => by
    unfold Lib.idxFuncFrom
    by_cases hp : pos < s.size
    · rw [if_pos hp]
      have hl : pos < s.data.toList.length := by rw [← Lib.size_eq]; exact hp
      have hb : s.data.toList[pos] = s[pos]'hp := by rw [Array.getElem_toList]; rfl
      rw [List.drop_eq_getElem_cons hl, List.all_cons, hb]
      by_cases ha : (s[pos]'hp).toNat < 128
      · rw [decode_ascii s pos hp ha]
        simp only [notDig_byte]
        cases hd : isDig (s[pos]'hp) with
        | true =>
          rw [if_neg (by simp), idx_digits s f (pos + 1) (by omega), Bool.true_and]
        | false =>
          rw [if_pos (by simp)]
          simp
      · have h1 := (decode_high s pos hp (by omega)).1
        have h2 : notDig (Utf8.decode s pos).1 = true := by
          unfold notDig
          rw [decide_eq_true (show 57 < (Utf8.decode s pos).1 by omega), Bool.or_true]
        have h3 : isDig (s[pos]'hp) = false := by
          unfold isDig
          rw [decide_eq_false (show ¬ (s[pos]'hp).toNat ≤ 57 by omega), Bool.and_false]
        rw [if_pos h2, h3]
        simp
    · rw [if_neg hp, List.drop_eq_nil_of_le (by rw [← Lib.size_eq]; omega)]
      rfl
theorem idx_all (s : ByteArray) : decide (0 ≤ Lib.idxFunc notDig true s) = !(s.data.toList.all isDig) := by
  unfold Lib.idxFunc
  rw [idx_digits s s.size 0 (by omega), List.drop_zero]
def foldV (n : Nat) (l : List UInt8) : Nat := l.foldl (fun n b => 10 * n + (b.toNat - 48)) n
theorem foldV_ge : ∀ (l : List UInt8) (n : Nat), n ≤ foldV n l
  | [], n => Nat.le_refl n
  | b :: l, n => by
    have := foldV_ge l (10 * n + (b.toNat - 48))
    unfold foldV at this ⊢
    rw [List.foldl_cons]
    omega
theorem isDig_iff (b : UInt8) : isDig b = true ↔ 48 ≤ b.toNat ∧ b.toNat ≤ 57 := by unfold isDig; simp
theorem parse_dig : ∀ (l : List UInt8) (n : Nat), n < 18446744073709551616 → l.all isDig = true → Lib.parseUint10 n l = if foldV n l < 18446744073709551616 then .ok (foldV n l) else .range
  | [], n, hn, _ => by
    rw [Lib.parseUint10, if_pos (show foldV n [] < 18446744073709551616 from hn)]
    rfl
  | b :: l, n, hn, h => by
    rw [List.all_cons, Bool.and_eq_true, isDig_iff] at h
    have hf : foldV n (b :: l) = foldV (10 * n + (b.toNat - 48)) l := rfl
    have hg := foldV_ge l (10 * n + (b.toNat - 48))
    rw [Lib.parseUint10, if_pos h.1, hf]
    by_cases h1 : 1844674407370955162 ≤ n
    · rw [if_pos h1, if_neg (by omega)]
    · rw [if_neg h1]
      by_cases h2 : 18446744073709551616 ≤ n * 10 + (b.toNat - 48)
      · rw [if_pos h2, if_neg (by omega)]
      · rw [if_neg h2, parse_dig l _ (by omega) h.2, Nat.mul_comm n 10]
theorem digB_all {l : List UInt8} (h : digB l = true) : l ≠ [] ∧ l.all isDig = true := by
  unfold digB at h
  rw [Bool.and_eq_true, Bool.and_eq_true] at h
  refine ⟨?_, h.2⟩
  rintro rfl
  simp at h
theorem atoi_dig {l : List UInt8} (h : digB l = true) : Lib.atoiAll l = if numV l < 9223372036854775808 then .ok (numV l : Nat) else .range := by
  obtain ⟨hne, hall⟩ := digB_all h
  cases l with
  | nil => exact absurd rfl hne
  | cons c r =>
    have hc := hall
    rw [List.all_cons, Bool.and_eq_true, isDig_iff] at hc
    have h1 : ¬ c.toNat = 43 := by omega
    have h2 : ¬ c.toNat = 45 := by omega
    unfold Lib.atoiAll Lib.parseMag
    simp only [h1, h2, or_self, if_false, reduceCtorEq, not_false_eq_true, true_and, false_and]
    rw [parse_dig (c :: r) 0 (by decide) hall]
    have e : foldV 0 (c :: r) = numV (c :: r) := rfl
    rw [e]
    by_cases h3 : numV (c :: r) < 18446744073709551616
    · rw [if_pos h3]
      by_cases h4 : numV (c :: r) < 9223372036854775808
      · rw [if_pos h4]
        simp only
        rw [if_neg (by omega)]
      · rw [if_neg h4]
        simp only
        rw [if_pos (by omega)]
    · rw [if_neg h3, if_neg (by omega)]
end Go.Proofs.YtngbjnjkcniabaaGreatDoor
