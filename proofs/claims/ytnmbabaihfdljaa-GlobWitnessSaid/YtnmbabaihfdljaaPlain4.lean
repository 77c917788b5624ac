/- A pattern of escaped bytes matches only their string. No program in sight. -/
import Derived.Test.YtnmbabaihfdljaaPlain3
namespace Go.Proofs.Ytnmbabaihfdljaa
open Bs

/-- a backslash before each byte -/
def esc (s : List UInt8) : List UInt8 := s.flatMap fun b => [92, b]

theorem esc_len (s : List UInt8) : (esc s).length = 2 * s.length := by
  induction s with
  | nil => rfl
  | cons b r ih => simp only [esc, List.flatMap_cons, List.length_append, List.length_cons, List.length_nil] at ih ⊢; omega

theorem esc_snoc (s : List UInt8) (b : UInt8) : esc (s ++ [b]) = esc s ++ [92, b] := by simp [esc]

theorem parse_esc : ∀ (s : List UInt8) (f : Nat), s.length < f → parseF f (esc s) = some (s.map fun b => litEl b.toNat) := by
  intro s
  induction s with
  | nil =>
    intro f hf
    obtain ⟨f, rfl⟩ : ∃ f', f = f' + 1 := ⟨f - 1, by omega⟩
    rfl
  | cons b r ih =>
    intro f hf
    obtain ⟨f, rfl⟩ : ∃ f', f = f' + 1 := ⟨f - 1, by omega⟩
    simp only [List.length_cons] at hf
    have e : esc (b :: r) = 92 :: b :: esc r := rfl
    rw [e, parseF, if_neg (by simp)]
    have h1 : firstF (92 :: b :: esc r) = some (litEl b.toNat, 2) := by simp [firstF]
    rw [h1]
    show (parseF f (esc r)).map (litEl b.toNat :: ·) = _
    rw [ih f (by omega)]
    rfl

theorem els_esc (s : List UInt8) : els (esc s) = some (s.map fun b => litEl b.toNat) := parse_esc s _ (by rw [esc_len]; omega)

theorem litGo_esc (s : List UInt8) : litGo (s.map fun b => litEl b.toNat) = (s, true) := by
  induction s with
  | nil => rfl
  | cons b r ih =>
    rw [List.map_cons, litGo, if_pos (show (litEl b.toNat).lit = true from rfl), ih]
    simp [litEl]

theorem literal_esc {s : List UInt8} (h : s.length ≤ 2048) : literalF (esc s) = (s, true) := by
  unfold literalF
  rw [if_neg (by rw [esc_len]; omega), els_esc]
  exact litGo_esc s

theorem valid_esc {s : List UInt8} (h : s.length ≤ 2048) : validF (esc s) = 0 := by
  unfold validF
  rw [if_neg (by rw [esc_len]; omega), els_esc]
  rfl

theorem match_esc {s : List UInt8} (h : s.length ≤ 2048) : gmatchF (esc s) s = true := by
  have h1 := gmatch_whole (p := esc s) (by rw [literal_esc h])
  rw [literal_esc h] at h1
  exact h1

theorem match_esc_ne {s t : List UInt8} (h : s.length ≤ 2048) (hne : t ≠ s) : gmatchF (esc s) t = false := by
  cases hm : gmatchF (esc s) t with
  | false => rfl
  | true =>
    have h1 := (gmatch_lit hm).2 (by rw [literal_esc h])
    rw [literal_esc h] at h1
    exact (hne h1).elim
end Go.Proofs.Ytnmbabaihfdljaa
