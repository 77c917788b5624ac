/- Overlap and witness answer alike. No program in sight. -/
import Derived.Test.YtnmbabaihfdljaaWit4
namespace Go.Proofs.Ytnmbabaihfdljaa
open Bs

def OverAns (a b : List UInt8) (r : Bool) : Prop :=
  match els a, els b with
  | some L, some M => (r = true ↔ Reach (absE L) (absE M) (L.length, M.length))
  | _, _ => r = false

theorem els_rels (l : List UInt8) : (els l = none ∧ rels l = none) ∨ ∃ L M, els l = some L ∧ rels l = some M ∧ SameL L M := by
  have h := els_same l
  cases h1 : els l with
  | none =>
    rw [h1] at h
    cases h2 : rels l with
    | none => exact .inl ⟨rfl, rfl⟩
    | some M => rw [h2] at h; exact h.elim
  | some L =>
    rw [h1] at h
    cases h2 : rels l with
    | none => rw [h2] at h; exact h.elim
    | some M => rw [h2] at h; exact .inr ⟨L, M, rfl, rfl, h⟩

theorem absE_len (L : List El) : (absE L).length = L.length := by simp [absE]

theorem over_wit {a b : List UInt8} {r ok : Bool} {q : ByteArray} (h : OverAns a b r) (h2 : WitAns a b q ok) : r = ok := by
  unfold OverAns at h
  unfold WitAns at h2
  rcases els_rels a with ⟨ha, ha'⟩ | ⟨L, L', ha, ha', hL⟩
  · rw [ha] at h; rw [ha'] at h2; rw [h, h2]
  · rcases els_rels b with ⟨hb, hb'⟩ | ⟨M, M', hb, hb', hM⟩
    · rw [ha, hb] at h; rw [ha', hb'] at h2; rw [h, h2]
    · rw [ha, hb] at h
      rw [ha', hb'] at h2
      simp only at h h2
      have e1 : L.length = L'.length := hL.length
      have e2 : M.length = M'.length := hM.length
      have key : Reach (absE L) (absE M) (L.length, M.length) ↔ Reach (L'.map RE.abs) (M'.map RE.abs) (L'.length, M'.length) := by
        rw [← e1, ← e2]
        exact ⟨fun g => g.alike hL.alike hM.alike, fun g => g.alike hL.alike.symm_ hM.alike.symm_⟩
      cases ok with
      | true =>
        obtain ⟨_, m1, m2⟩ := h2.1 rfl
        have := both_match m1 m2
        simp only [List.length_map] at this
        exact h.2 (key.2 this)
      | false =>
        have := h2.2 rfl
        cases hr : r with
        | false => rfl
        | true => exact absurd (key.1 (h.1 hr)) this

theorem over_comm {a b : List UInt8} {r r2 : Bool} (h : OverAns a b r) (h2 : OverAns b a r2) : r2 = r := by
  unfold OverAns at h h2
  cases ha : els a with
  | none =>
    rw [ha] at h h2
    cases hb : els b with
    | none => rw [hb] at h2; rw [h, h2]
    | some M => rw [hb] at h2; rw [h, h2]
  | some L =>
    rw [ha] at h h2
    cases hb : els b with
    | none => rw [hb] at h h2; rw [h, h2]
    | some M =>
      rw [hb] at h h2
      simp only at h h2
      rw [Bool.eq_iff_iff, h, h2]
      exact reach_swap

theorem over_no {a b s : List UInt8} (h : OverAns a b false) (h1 : gmatchF a s = true) (h2 : gmatchF b s = true) : False := by
  unfold gmatchF at h1 h2
  unfold OverAns at h
  split at h1
  · cases h1
  · split at h2
    · cases h2
    · cases ha : els a with
      | none => rw [ha] at h1; cases h1
      | some L =>
        cases hb : els b with
        | none => rw [hb] at h2; cases h2
        | some M =>
          rw [ha] at h1 h
          rw [hb] at h2 h
          have := both_match h1 h2
          rw [absE_len, absE_len] at this
          exact absurd (h.2 this) (by simp)

theorem wit_match {a b : List UInt8} {q : ByteArray} (h : WitAns a b q true) (ha : a.length ≤ 4096) (hb : b.length ≤ 4096) : q.size ≤ 2000 ∧ gmatchF a q.data.toList = true ∧ gmatchF b q.data.toList = true := by
  unfold WitAns at h
  rw [gmatch_same, gmatch_same]
  unfold rmatchF
  rw [if_neg (by omega), if_neg (by omega)]
  cases h1 : rels a with
  | none => rw [h1] at h; cases h
  | some L =>
    cases h2 : rels b with
    | none => rw [h1, h2] at h; cases h
    | some M =>
      rw [h1, h2] at h
      exact h.1 rfl
end Go.Proofs.Ytnmbabaihfdljaa
