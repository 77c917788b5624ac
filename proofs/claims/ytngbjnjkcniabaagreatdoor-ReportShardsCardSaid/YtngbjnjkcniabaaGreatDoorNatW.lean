/- Plain laws: natural order in the steps in which the walks take it. No program in sight. -/
import Derived.Test.YtngbjnjkcniabaaGreatDoorNatS
namespace Go.Proofs.YtngbjnjkcniabaaGreatDoor
open Go.RowKit

def runN (l : Bs) : Nat := (l.takeWhile digF).length
theorem run_take : ∀ l : Bs, l.takeWhile digF = l.take (runN l) ∧ l.dropWhile digF = l.drop (runN l)
  | [] => ⟨rfl, rfl⟩
  | c :: r => by
    unfold runN
    obtain ⟨h1, h2⟩ := run_take r
    unfold runN at h1 h2
    by_cases hc : digF c = true
    · rw [List.takeWhile_cons, List.dropWhile_cons, if_pos hc, if_pos hc, List.length_cons, List.take_succ_cons, List.drop_succ_cons, ← h2, ← h1]
      exact ⟨rfl, rfl⟩
    · rw [List.takeWhile_cons, List.dropWhile_cons, if_neg hc, if_neg hc]
      exact ⟨rfl, rfl⟩
theorem runN_le (l : Bs) : runN l ≤ l.length := by
  have := congrArg List.length (run_take l).1
  rw [List.length_take] at this
  unfold runN at *
  omega
theorem run_stop : ∀ (l : Bs) (n : Nat), n ≤ l.length → (∀ j, j < n → digF (l.getD j 0) = true) → (n = l.length ∨ digF (l.getD n 0) = false) → runN l = n
  | [], n, h, _, _ => by simp at h; subst h; rfl
  | c :: r, 0, _, _, hs => by
    rcases hs with h | h
    · simp at h
    · unfold runN
      rw [List.takeWhile_cons, if_neg (by simpa using h)]
      rfl
  | c :: r, n + 1, h, hd, hs => by
    have hc : digF c = true := by simpa using hd 0 (by omega)
    have := run_stop r n (by simpa using h) (fun j hj => by simpa using hd (j + 1) (by omega)) (by simpa using hs)
    unfold runN at *
    rw [List.takeWhile_cons, if_pos hc, List.length_cons, this]
theorem runN_zero {c : UInt8} {r : Bs} : (0 < runN (c :: r)) ↔ digF c = true := by
  unfold runN
  rw [List.takeWhile_cons]
  by_cases hc : digF c = true
  · simp [hc]
  · simp [hc]
theorem runN_head {l : Bs} (hl : l ≠ []) : (0 < runN l) ↔ digF (l.getD 0 0) = true := by
  cases l with
  | nil => exact absurd rfl hl
  | cons c r => exact runN_zero

theorem nat_dig {a b : Bs} (h0 : 0 < runN a) (h1 : 0 < runN b) : natC a b = if numF (a.take (runN a)) (b.take (runN b)) = 0 then natC (a.drop (runN a)) (b.drop (runN b)) else numF (a.take (runN a)) (b.take (runN b)) := by
  cases a with
  | nil => simp [runN] at h0
  | cons c a =>
    cases b with
    | nil => simp [runN] at h1
    | cons d b =>
      rw [natC_dig (runN_zero.1 h0) (runN_zero.1 h1), (run_take (c :: a)).1, (run_take (d :: b)).1, (run_take (c :: a)).2, (run_take (d :: b)).2]
theorem nat_one {a b : Bs} (ha : a ≠ []) (hb : b ≠ []) (h : ¬ (0 < runN a ∧ 0 < runN b)) : natC a b = if cmpN (a.getD 0 0).toNat (b.getD 0 0).toNat = 0 then natC (a.drop 1) (b.drop 1) else cmpN (a.getD 0 0).toNat (b.getD 0 0).toNat := by
  cases a with
  | nil => exact absurd rfl ha
  | cons c a =>
    cases b with
    | nil => exact absurd rfl hb
    | cons d b =>
      rw [natC_byte (fun k => h ⟨runN_zero.2 k.1, runN_zero.2 k.2⟩)]
      show (if c = d then natC a b else cmpN c.toNat d.toNat) = if cmpN c.toNat d.toNat = 0 then natC a b else cmpN c.toNat d.toNat
      by_cases e : c = d
      · subst e; rw [if_pos rfl, if_pos (cmpN_po.refl _)]
      · rw [if_neg e, if_neg fun h0 => e (UInt8.toNat_inj.1 (cmpN_eq h0))]

theorem cmpN_rng (x y : Nat) : cmpN x y = -1 ∨ cmpN x y = 0 ∨ cmpN x y = 1 := cmpN_po.rng x y
theorem strip_stop : ∀ (l : Bs) (n : Nat), n ≤ l.length → (∀ j, j < n → l.getD j 0 = 48) → (n = l.length ∨ l.getD n 0 ≠ 48) → stripF l = l.drop n
  | [], n, h, _, _ => by simp at h; subst h; rfl
  | c :: r, 0, _, _, hs => by
    rcases hs with h | h
    · simp at h
    · unfold stripF
      rw [List.dropWhile_cons, if_neg (by simpa using h)]
      rfl
  | c :: r, n + 1, h, hd, hs => by
    have hc : c = 48 := by simpa using hd 0 (by omega)
    have := strip_stop r n (by simpa using h) (fun j hj => by simpa using hd (j + 1) (by omega)) (by simpa using hs)
    unfold stripF at *
    rw [List.dropWhile_cons, if_pos (by simpa using hc), List.drop_succ_cons, this]
theorem strip_le (l : Bs) : (stripF l).length ≤ l.length := (strip_split l).2
end Go.Proofs.YtngbjnjkcniabaaGreatDoor
