/- strings.IndexAny of the digits, at any text: bytes that are no ASCII begin no digit. -/
import Derived.Test.YtbhhjaflinfnfaaDoorNum3
import Derived.Test.YtbhhjaflinfnfaaDoorShelf
import Derived.Laws.RangeAny
import Derived.Shelf.Strings.IndexAnyAll
import Derived.BigQuiet
import Derived.IntWalk
namespace Go.Proofs.YtbhhjaflinfnfaaDoor
open Go.RowKit

def digs : ByteArray := ⟨#[48, 49, 50, 51, 52, 53, 54, 55, 56, 57]⟩
theorem digs_asciiR : ∀ (j : Nat) (b : UInt8), digs.data.toList[j]? = some b → b.toNat < 128 := by
  intro j b h
  have : digs.data.toList.all (fun b => decide (b.toNat < 128)) = true := by decide
  have := List.all_eq_true.1 this b (List.mem_of_getElem? h)
  simpa using this
theorem digs_high {b : UInt8} (h : 128 ≤ b.toNat) : digs.data.toList.contains b = false := by
  rw [Bool.eq_false_iff]
  intro hc
  have h2 : b ∈ digs.data.toList := by simpa using hc
  obtain ⟨j, hj, e⟩ := List.getElem_of_mem h2
  have := digs_asciiR j b (by rw [List.getElem?_eq_getElem hj, e])
  omega
/-- what a rune that is no ASCII is made of -/
theorem decode_cont (s : ByteArray) (pos : Nat) (h : pos < s.size) (ha : 128 ≤ (s[pos]'h).toNat) : pos + (Utf8.decode s pos).2 ≤ s.size ∧ ∀ j (hj : pos + j < s.size), j < (Utf8.decode s pos).2 → 128 ≤ (s[pos + j]'hj).toNat := by
  have hn : ¬ (s[pos]'h).toNat < 128 := by omega
  have hg : ∀ j (hj : pos + j < s.size), (s.get! (pos + j)).toNat = (s[pos + j]'hj).toNat := fun j hj => by
    have := get_at s (pos + j) hj
    rw [Nat.add_zero] at this
    rw [this]
  have key : ∀ k : Nat, (∀ j, 1 ≤ j → j < k → pos + j < s.size ∧ (s.get! (pos + j)).toNat / 64 = 2) → 1 ≤ k → pos + k ≤ s.size ∧ ∀ j (hj : pos + j < s.size), j < k → 128 ≤ (s[pos + j]'hj).toNat := fun k hk h1 => by
    refine ⟨?_, fun j hj hjk => ?_⟩
    · by_cases e : k = 1
      · omega
      · have := (hk (k - 1) (by omega) (by omega)).1
        omega
    · by_cases e : j = 0
      · subst e; exact ha
      · have := (hk j (by omega) hjk).2
        rw [hg j hj] at this
        omega
  have e2 : ∀ k, (Utf8.decode s pos).2 = k → (k = 1 ∨ (k = 2 ∧ (decide (pos + 1 < s.size) && (s.get! (pos + 1)).toNat / 64 == 2) = true) ∨ (k = 3 ∧ (decide (pos + 1 < s.size) && (s.get! (pos + 1)).toNat / 64 == 2) = true ∧ (decide (pos + 2 < s.size) && (s.get! (pos + 2)).toNat / 64 == 2) = true) ∨
      (k = 4 ∧ (decide (pos + 1 < s.size) && (s.get! (pos + 1)).toNat / 64 == 2) = true ∧ (decide (pos + 2 < s.size) && (s.get! (pos + 2)).toNat / 64 == 2) = true ∧ (decide (pos + 3 < s.size) && (s.get! (pos + 3)).toNat / 64 == 2) = true)) := by
    clear hg key
    intro k hk
    simp only [Utf8.decode, get_at s pos h, hn, if_false] at hk
    repeat' split at hk
    all_goals simp_all
    all_goals omega
  rcases e2 _ rfl with e | ⟨e, c1⟩ | ⟨e, c1, c2⟩ | ⟨e, c1, c2, c3⟩ <;> rw [e]
  · exact key 1 (fun j h1 h2 => by omega) (by decide)
  · simp at c1
    exact key 2 (fun j h1 h2 => by
      have : j = 1 := by omega
      subst this
      exact c1) (by decide)
  · simp at c1 c2
    exact key 3 (fun j h1 h2 => by
      have : j = 1 ∨ j = 2 := by omega
      rcases this with rfl | rfl
      · exact c1
      · exact c2) (by decide)
  · simp at c1 c2 c3
    exact key 4 (fun j h1 h2 => by
      have : j = 1 ∨ j = 2 ∨ j = 3 := by omega
      rcases this with rfl | rfl | rfl
      · exact c1
      · exact c2
      · exact c3) (by decide)
theorem noAny_add {s : ByteArray} {pos : Nat} (h : pos < s.size) (ha : 128 ≤ (s[pos]'h).toNat) (hn : Lib.NoAny s.data.toList digs.data.toList pos) : Lib.NoAny s.data.toList digs.data.toList (pos + (Utf8.decode s pos).2) := fun j b hj hb => by
  by_cases hlt : j < pos
  · exact hn j b hlt hb
  · obtain ⟨i, rfl⟩ : ∃ i, j = pos + i := ⟨j - pos, by omega⟩
    have hs : pos + i < s.size := by
      have := (List.getElem?_eq_some_iff.1 hb).1
      rw [Lib.size_eq]; exact this
    have h1 := (decode_cont s pos h ha).2 i hs (by omega)
    have h2 := Lib.data_getElem? s (pos + i) hs
    rw [hb] at h2
    injection h2 with h2
    rw [← h2] at h1
    exact digs_high h1
end Go.Proofs.YtbhhjaflinfnfaaDoor
