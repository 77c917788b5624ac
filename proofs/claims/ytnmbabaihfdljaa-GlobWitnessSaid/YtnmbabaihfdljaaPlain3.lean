/- The plain laws of the literal beginning. No program in sight. -/
import Derived.Test.YtnmbabaihfdljaaPlain2
namespace Go.Proofs.Ytnmbabaihfdljaa
open Bs

/-- a literal element matches its byte and nothing else -/
def LitOk (E : El) : Prop := E.lit = true → E.many = false ∧ E.ch < 256 ∧ ∀ c, c < 256 → E.set.testBit c = decide (c = E.ch)

theorem Same.lit {E : El} {e : RE} (h : Same E e) (hc : E.ch < 256) : LitOk E := by
  intro hl
  obtain ⟨h1, h2, h3, h4⟩ := h
  have hk : e.kind = 5 := by rw [h3] at hl; simpa using hl
  refine ⟨by rw [h1, RE.many, hk]; rfl, hc, fun c hc => ?_⟩
  rw [h2 c hc, RE.fits, if_neg (by omega), if_neg (by omega), if_neg (by omega), h4 hk]
  rw [Bool.eq_iff_iff]
  simp
  omega

theorem SameL.lit : ∀ {L : List El} {M : List RE}, SameL L M → (∀ e ∈ L, e.ch < 256) → ∀ e ∈ L, LitOk e
  | [], [], _, _, e, he => by cases he
  | E :: L, e :: M, h, hc, x, hx => by
    rcases List.mem_cons.1 hx with rfl | hx
    · exact h.1.lit (hc _ (by simp))
    · exact SameL.lit h.2 (fun e he => hc e (by simp [he])) x hx
  | [], _ :: _, h, _, _, _ => h.elim
  | _ :: _, [], h, _, _, _ => h.elim

theorem els_lit {p : List UInt8} {L : List El} (h : els p = some L) : ∀ e ∈ L, LitOk e := by
  have hs := els_same p
  rw [h] at hs
  cases hr : rels p with
  | none => rw [hr] at hs; exact hs.elim
  | some M => rw [hr] at hs; exact SameL.lit hs (parseF_ch h)

theorem litGo_facts : ∀ (L : List El), (litGo L).1.length ≤ L.length ∧ ((litGo L).2 = true ↔ (litGo L).1.length = L.length) ∧
    ∀ i (hi : i < (litGo L).1.length) (hl : i < L.length), L[i].lit = true ∧ (litGo L).1[i] = UInt8.ofNat L[i].ch
  | [] => ⟨by simp [litGo], by simp [litGo], fun i hi => by simp [litGo] at hi⟩
  | e :: r => by
    obtain ⟨h1, h2, h3⟩ := litGo_facts r
    by_cases h : e.lit = true
    · have e1 : litGo (e :: r) = (UInt8.ofNat e.ch :: (litGo r).1, (litGo r).2) := by rw [litGo, if_pos h]
      rw [e1]
      refine ⟨by simp; exact h1, by simp [h2], fun i hi hl => ?_⟩
      cases i with
      | zero => exact ⟨h, rfl⟩
      | succ i => simp at hi; exact h3 i hi (by simpa using hl)
    · have e1 : litGo (e :: r) = ([], false) := by rw [litGo, if_neg h]
      rw [e1]
      exact ⟨by simp, by simp, fun i hi => by simp at hi⟩

theorem u8_eq_of {b : UInt8} {c : Nat} (hc : c < 256) (h : b.toNat = c) : b = UInt8.ofNat c := by
  apply UInt8.toNat_inj.1
  rw [h, UInt8.toNat_ofNat']
  omega

/-- a string that matches begins with the literal beginning, and is it if that is all -/
theorem lit_prefix {L : List El} (hL : ∀ e ∈ L, LitOk e) {s : List UInt8} (h : matchF (absE L) s = true) :
    s.take (litGo L).1.length = (litGo L).1 ∧ ((litGo L).2 = true → s = (litGo L).1) := by
  obtain ⟨h1, h2, h3⟩ := litGo_facts L
  generalize litGo L = q at *
  obtain ⟨x, b⟩ := q
  simp only at h1 h2 h3 ⊢
  have hA : (absE L).length = L.length := by simp [absE]
  have hT := matchF_sound h (T := fun i k => if i < x.length then k = i ∧ s.take i = x.take i else s.take x.length = x ∧ (x.length = L.length → k = x.length)) ?_
  · rw [hA, if_neg (by omega)] at hT
    refine ⟨hT.1, fun hb => ?_⟩
    have := hT.2 (h2.1 hb)
    rw [← this, List.take_length] at hT
    exact hT.1
  · refine ⟨?_, fun i k hi hk hm ht => ?_, fun i k hi hk hf ht => ?_⟩
    · show if 0 < x.length then 0 = 0 ∧ s.take 0 = x.take 0 else s.take x.length = x ∧ (x.length = L.length → 0 = x.length)
      split
      · simp
      · rename_i h0
        have : x = [] := List.length_eq_zero_iff.1 (by omega)
        subst this
        simp
    · rw [hA] at hi
      by_cases hx : i < x.length
      · have := (hL L[i] (List.getElem_mem hi) (h3 i hx hi).1).1
        rw [absE_getD hi] at hm
        rw [show (L[i].abs).1 = L[i].many from rfl, this] at hm
        cases hm
      · rw [if_neg hx] at ht
        rw [if_neg (by omega)]
        exact ⟨ht.1, fun e => by omega⟩
    · rw [hA] at hi
      rw [absE_getD hi] at hf ⊢
      by_cases hx : i < x.length
      · obtain ⟨hl, hxi⟩ := h3 i hx hi
        obtain ⟨hm, hc, hb⟩ := hL L[i] (List.getElem_mem hi) hl
        rw [if_pos hx] at ht
        obtain ⟨rfl, ht⟩ := ht
        rw [show (L[k].abs).1 = L[k].many from rfl, hm]
        have hf' : L[k].set.testBit (s.getD k 0).toNat = true := hf
        rw [hb _ (UInt8.toNat_lt _)] at hf'
        have hsk : s[k] = x[k] := by
          rw [hxi]
          apply u8_eq_of hc
          have : s.getD k 0 = s[k] := by simp [List.getD, hk]
          rw [this] at hf'
          simpa using hf'
        have ht1 : s.take (k + 1) = x.take (k + 1) := by
          rw [List.take_add_one, List.take_add_one, ht]
          simp [hk, hx, hsk]
        simp only [Bool.false_eq_true, if_false]
        by_cases hx1 : k + 1 < x.length
        · rw [if_pos hx1]
          exact ⟨by first | rfl | trivial, ht1⟩
        · rw [if_neg hx1]
          have e : x.length = k + 1 := by omega
          rw [e, ht1, List.take_of_length_le (by omega)]
          exact ⟨by first | rfl | trivial, fun _ => by first | rfl | trivial⟩
      · rw [if_neg hx] at ht
        have : ¬ (if (L[i].abs).1 = true then i else i + 1) < x.length := by split <;> omega
        rw [if_neg this]
        exact ⟨ht.1, fun e => by omega⟩

/-- the literal beginning that is all matches -/
theorem lit_whole {L : List El} (hL : ∀ e ∈ L, LitOk e) (hb : (litGo L).2 = true) : matchF (absE L) (litGo L).1 = true := by
  obtain ⟨h1, h2, h3⟩ := litGo_facts L
  generalize litGo L = q at *
  obtain ⟨x, b⟩ := q
  simp only at h1 h2 h3 hb ⊢
  have hx := h2.1 hb
  have hA : (absE L).length = L.length := by simp [absE]
  apply matchF_complete
  intro T hT
  rw [hA, ← hx]
  have key : ∀ i, i ≤ x.length → T i i := by
    intro i
    induction i with
    | zero => intro _; exact hT.1
    | succ i ih =>
      intro hi
      have hiL : i < L.length := by omega
      obtain ⟨hl, hxi⟩ := h3 i hi hiL
      obtain ⟨hm, hc, hbit⟩ := hL L[i] (List.getElem_mem hiL) hl
      have := hT.2.2 i i (by omega) hi ?_ (ih (by omega))
      · rw [absE_getD hiL] at this
        rw [show (L[i].abs).1 = L[i].many from rfl, hm] at this
        exact this
      · rw [absE_getD hiL]
        show L[i].set.testBit _ = true
        rw [hbit _ (UInt8.toNat_lt _)]
        have : x.getD i 0 = x[i] := by simp [List.getD, show i < x.length by omega]
        rw [this, hxi, UInt8.toNat_ofNat']
        simp
        omega
  exact key _ (Nat.le_refl _)

theorem gmatch_lit {p s : List UInt8} (h : gmatchF p s = true) : s.take (literalF p).1.length = (literalF p).1 ∧ ((literalF p).2 = true → s = (literalF p).1) := by
  unfold gmatchF at h
  unfold literalF
  split
  · rename_i hl; rw [if_pos hl] at h; cases h
  · rename_i hl
    rw [if_neg hl] at h
    cases he : els p with
    | none => rw [he] at h; cases h
    | some L => rw [he] at h; exact lit_prefix (els_lit he) h

theorem gmatch_whole {p : List UInt8} (h : (literalF p).2 = true) : gmatchF p (literalF p).1 = true := by
  unfold gmatchF
  unfold literalF at h ⊢
  split
  · rename_i hl; rw [if_pos hl] at h; cases h
  · rename_i hl
    rw [if_neg hl] at h
    cases he : els p with
    | none => rw [he] at h; cases h
    | some L => rw [he] at h; exact lit_whole (els_lit he) h

theorem parseF_len {f : Nat} : ∀ {l : List UInt8} {L : List El}, parseF f l = some L → L.length ≤ f := by
  induction f with
  | zero => intro l L h; cases h
  | succ f ih =>
    intro l L h
    rw [parseF] at h
    split at h
    · simp at h; subst h; simp
    · cases hr : firstF l with
      | none => rw [hr] at h; cases h
      | some x =>
        obtain ⟨E, n⟩ := x
        rw [hr] at h
        simp only at h
        cases hq : parseF f (l.drop n) with
        | none => rw [hq] at h; cases h
        | some L' =>
          rw [hq] at h
          simp at h
          subst h
          have := ih hq
          simp
          exact this

theorem literalF_len (p : List UInt8) : (literalF p).1.length ≤ 4097 := by
  unfold literalF
  split
  · simp
  · rename_i hl
    cases he : els p with
    | none => simp
    | some L =>
      have h1 := (litGo_facts L).1
      have h2 := parseF_len he
      show (litGo L).1.length ≤ 4097
      omega
end Go.Proofs.Ytnmbabaihfdljaa
