/- A text that is accepted is the one of its duration; no program in sight. -/
import Derived.Test.YtbhhjaflinfnfaaDoorDpar
namespace Go.Proofs.YtbhhjaflinfnfaaDoor
open Go.RowKit

theorem digit_back {c : UInt8} (h : isDig c) : UInt8.ofNat (48 + (c.toNat - 48)) = c := by
  have := isDig_rng h
  rw [show 48 + (c.toNat - 48) = c.toNat by omega]
  exact UInt8.ofNat_toNat
theorem dec_back : ∀ (n : Nat) (ds : List UInt8), ds.length = n + 1 → (∀ b ∈ ds, isDig b) → ds.getD 0 0 ≠ 48 → 0 < valD ds ∧ Lib.decDigits (valD ds) = ds
  | 0, ds, hl, hd, h0 => by
    obtain ⟨c, rfl⟩ := List.length_eq_one_iff.1 hl
    have hc := hd c (List.mem_cons_self ..)
    have hr := isDig_rng hc
    have hv : valD [c] = c.toNat - 48 := by show 10 * 0 + (c.toNat - 48) = _; omega
    have hne : c.toNat ≠ 48 := fun e => h0 (by
      show c = 48
      rw [← UInt8.ofNat_toNat (x := c), e]
      rfl)
    rw [hv]
    refine ⟨by omega, ?_⟩
    rw [Lib.decDigits, dif_pos (by omega), digit_back hc]
  | n + 1, ds, hl, hd, h0 => by
    have hne : ds ≠ [] := fun e => by rw [e] at hl; cases hl
    obtain ⟨init, c, rfl⟩ : ∃ init c, ds = init ++ [c] := ⟨ds.dropLast, ds.getLast hne, (List.dropLast_concat_getLast hne).symm⟩
    have hil : init.length = n + 1 := by rw [List.length_append, List.length_singleton] at hl; omega
    have hc := hd c (List.mem_append.2 (.inr (List.mem_singleton.2 rfl)))
    have hr := isDig_rng hc
    obtain ⟨h1, h2⟩ := dec_back n init hil (fun b hb => hd b (List.mem_append.2 (.inl hb))) (by
      rw [List.getD, List.getElem?_append_left (by omega)] at h0
      exact h0)
    rw [valD_snoc]
    refine ⟨by omega, ?_⟩
    rw [Lib.decDigits, dif_neg (by omega), show (10 * valD init + (c.toNat - 48)) / 10 = valD init by omega, show (10 * valD init + (c.toNat - 48)) % 10 = c.toNat - 48 by omega, h2, digit_back hc]
theorem pGo_ge : ∀ (g : Nat) (l : List UInt8) (nx S P : Nat), S ≤ 9223372036854775807 → pGo g l nx S = some P → S ≤ P
  | 0, _, _, _, _, _, h => by rw [pGo] at h; cases h
  | g + 1, l, nx, S, P, hS, h => by
    by_cases hl : l = []
    · rw [pGo, if_pos hl] at h
      injection h with h
      omega
    · rw [pGo_cons g l nx S hl] at h
      split at h
      · cases h
      · refine Nat.le_trans ?_ (pGo_ge g _ _ _ P (Nat.min_le_right _ _) h)
        exact Nat.le_min.2 ⟨Nat.le_add_right _ _, hS⟩
theorem txt_congr {vs vs' : Nat → Nat} : ∀ (f i : Nat), (∀ j, i ≤ j → vs j = vs' j) → txt vs f i = txt vs' f i ∧ tot vs f i = tot vs' f i
  | 0, _, _ => ⟨rfl, rfl⟩
  | f + 1, i, h => by
    obtain ⟨h1, h2⟩ := txt_congr f (i + 1) fun j hj => h j (by omega)
    rw [txt, txt, tot, tot, h1, h2, h i (Nat.le_refl _)]
    exact ⟨rfl, rfl⟩
theorem txt_skip {vs : Nat → Nat} : ∀ (d a : Nat), a + d ≤ 5 → (∀ j, a ≤ j → j < a + d → vs j = 0) → txt vs (5 - a) a = txt vs (5 - (a + d)) (a + d) ∧ tot vs (5 - a) a = tot vs (5 - (a + d)) (a + d)
  | 0, a, _, _ => ⟨rfl, rfl⟩
  | d + 1, a, hd, h => by
    have h0 := h a (Nat.le_refl _) (by omega)
    obtain ⟨h1, h2⟩ := txt_skip (vs := vs) d (a + 1) (by omega) fun j hj1 hj2 => h j (by omega) (by omega)
    rw [show a + 1 + d = a + (d + 1) by omega] at h1 h2
    rw [← h1, ← h2, show 5 - a = 5 - (a + 1) + 1 by omega, txt, tot, h0, if_pos rfl]
    exact ⟨rfl, by omega⟩
theorem canon : ∀ (n : Nat) (l : List UInt8) (nx S g P : Nat), l.length ≤ n → nx ≤ 5 → S ≤ 9223372036854775807 → pGo g l nx S = some P → P ≤ 1125899906842624 →
    ∃ vs : Nat → Nat, l = txt vs (5 - nx) nx ∧ P = S + tot vs (5 - nx) nx ∧ ∀ i, nx ≤ i → i < 5 → uMost i = 0 ∨ vs i < uMost i := by
  intro n
  induction n with
  | zero =>
    intro l nx S g P hl hnx _ h hP
    obtain rfl := List.length_eq_zero_iff.1 (show l.length = 0 by omega)
    cases g with
    | zero => rw [pGo] at h; cases h
    | succ g =>
      rw [pGo, if_pos rfl] at h
      injection h with h
      have hz := txt_skip (vs := fun _ => 0) (5 - nx) nx (by omega) (fun _ _ _ => rfl)
      rw [show nx + (5 - nx) = 5 by omega] at hz
      refine ⟨fun _ => 0, by rw [hz.1]; rfl, by rw [hz.2]; exact h.symm, fun i _ _ => ?_⟩
      by_cases h0 : uMost i = 0
      · exact .inl h0
      · exact .inr (Nat.pos_of_ne_zero h0)
  | succ n ih =>
    intro l nx S g P hl hnx hS h hP
    cases g with
    | zero => rw [pGo] at h; cases h
    | succ g =>
    by_cases hle : l = []
    · subst hle
      rw [pGo, if_pos rfl] at h
      injection h with h
      have hz := txt_skip (vs := fun _ => 0) (5 - nx) nx (by omega) (fun _ _ _ => rfl)
      rw [show nx + (5 - nx) = 5 by omega] at hz
      refine ⟨fun _ => 0, by rw [hz.1]; rfl, by rw [hz.2]; exact h.symm, fun i _ _ => ?_⟩
      by_cases h0 : uMost i = 0
      · exact .inl h0
      · exact .inr (Nat.pos_of_ne_zero h0)
    · obtain ⟨ds, un, rest, e, hd, hu, hr, hur, hcN, hcE⟩ := split_all l
      have p1 : l.take (cutN l) = ds := by rw [hcN, e, List.take_left]
      have p2 : (l.drop (cutN l)).take (cutE l) = un := by rw [hcN, hcE, e, List.drop_left, List.take_left]
      have p3 : l.drop (cutN l + cutE l) = rest := by rw [← List.drop_drop, hcN, hcE, e, List.drop_left, List.drop_left]
      rw [pGo_cons g l nx S hle, p1, p2, p3, num_val] at h
      by_cases hc : ds = [] ∨ ds.getD 0 0 = 48 ∨ findU ⟨un.toArray⟩ 5 nx = 5 ∨ (0 < uMost (findU ⟨un.toArray⟩ 5 nx) ∧ uMost (findU ⟨un.toArray⟩ 5 nx) ≤ min (valD ds) 9223372036854775807)
      · rw [if_pos hc] at h; cases h
      rw [if_neg hc] at h
      have hd0 : ds ≠ [] := fun k => hc (.inl k)
      have h48 : ds.getD 0 0 ≠ 48 := fun k => hc (.inr (.inl k))
      have hfl := findU_ge ⟨un.toArray⟩ 5 nx (by omega) (by omega)
      have hi5 : findU ⟨un.toArray⟩ 5 nx < 5 := by
        have : findU ⟨un.toArray⟩ 5 nx ≠ 5 := fun k => hc (.inr (.inr (.inl k)))
        omega
      have hmo : ¬ (0 < uMost (findU ⟨un.toArray⟩ 5 nx) ∧ uMost (findU ⟨un.toArray⟩ 5 nx) ≤ min (valD ds) 9223372036854775807) := fun k => hc (.inr (.inr (.inr k)))
      obtain ⟨hin, hnm⟩ := findU_some 5 nx ⟨un.toArray⟩ (by omega) hi5
      clear hc hfl
      generalize findU ⟨un.toArray⟩ 5 nx = i at *
      have hun : un = (uN i).data.toList := by simpa using hnm.symm
      have hdl : 0 < ds.length := List.length_pos_iff.2 hd0
      obtain ⟨hv0, hvd⟩ := dec_back (ds.length - 1) ds (by omega) hd h48
      have hll : l.length = ds.length + (un.length + rest.length) := by rw [e, List.length_append, List.length_append]
      obtain ⟨S', hS'⟩ : ∃ S', min (S + satMul (min (valD ds) 9223372036854775807) (uMs i)) 9223372036854775807 = S' := ⟨_, rfl⟩
      rw [hS'] at h
      have hSm : S' ≤ 9223372036854775807 := by rw [← hS']; exact Nat.min_le_right _ _
      have hSP := pGo_ge g rest (i + 1) S' P hSm h
      have hex : S' = S + valD ds * uMs i := by
        unfold satMul at hS'
        have hms := uMs_pos i
        have h1 : S' < 9223372036854775807 := Nat.lt_of_le_of_lt (Nat.le_trans hSP hP) (by decide)
        have h2 : S + min (min (valD ds) 9223372036854775807 * uMs i) 9223372036854775807 = S' := by
          rcases Nat.le_total (S + min (min (valD ds) 9223372036854775807 * uMs i) 9223372036854775807) 9223372036854775807 with k | k
          · rw [Nat.min_eq_left k] at hS'; exact hS'
          · rw [Nat.min_eq_right k] at hS'; omega
        have h3 : min (min (valD ds) 9223372036854775807 * uMs i) 9223372036854775807 < 9223372036854775807 := Nat.lt_of_le_of_lt (Nat.le_add_left _ _) (by rw [h2]; exact h1)
        have h4 : min (valD ds) 9223372036854775807 * uMs i < 9223372036854775807 := by
          rcases Nat.le_total (min (valD ds) 9223372036854775807 * uMs i) 9223372036854775807 with k | k
          · rw [Nat.min_eq_left k] at h3; exact h3
          · rw [Nat.min_eq_right k] at h3; exact absurd h3 (Nat.lt_irrefl _)
        have h5 : min (valD ds) 9223372036854775807 < 9223372036854775807 := Nat.lt_of_le_of_lt (Nat.le_mul_of_pos_right _ hms) h4
        have h6 : min (valD ds) 9223372036854775807 = valD ds := by
          rcases Nat.le_total (valD ds) 9223372036854775807 with k | k
          · exact Nat.min_eq_left k
          · rw [Nat.min_eq_right k] at h5; exact absurd h5 (Nat.lt_irrefl _)
        rw [← h2, Nat.min_eq_left (Nat.le_of_lt h4), h6]
      obtain ⟨vs', e1, e2, e3⟩ := ih rest (i + 1) S' g P (by omega) (by omega) hSm h hP
      refine ⟨fun j => if j = i then valD ds else if j < i then 0 else vs' j, ?_, ?_, ?_⟩
      all_goals
        have hsk := txt_skip (vs := fun j => if j = i then valD ds else if j < i then 0 else vs' j) (i - nx) nx (by omega) (fun j h1 h2 => by rw [if_neg (by omega), if_pos (by omega)])
        rw [show nx + (i - nx) = i by omega] at hsk
        have hcg := txt_congr (vs := fun j => if j = i then valD ds else if j < i then 0 else vs' j) (vs' := vs') (5 - (i + 1)) (i + 1) (fun j hj => by rw [if_neg (by omega), if_neg (by omega)])
      · rw [hsk.1, show 5 - i = 5 - (i + 1) + 1 by omega, txt, hcg.1]
        try dsimp only
        rw [if_pos rfl, if_neg (by omega), hvd, ← e1, ← hun, List.append_assoc]
        exact e
      · rw [hsk.2, show 5 - i = 5 - (i + 1) + 1 by omega, tot, hcg.2]
        try dsimp only
        rw [if_pos rfl, e2, hex]
        omega
      · intro j hj1 hj2
        dsimp only
        by_cases hji : j = i
        · rw [if_pos hji, hji]
          by_cases h0 : uMost i = 0
          · exact .inl h0
          · right
            refine Nat.lt_of_not_le fun k => hmo ⟨Nat.pos_of_ne_zero h0, Nat.le_min.2 ⟨k, ?_⟩⟩
            have := uMost_le i
            omega
        · rw [if_neg hji]
          by_cases hlt : j < i
          · rw [if_pos hlt]
            by_cases h0 : uMost j = 0
            · exact .inl h0
            · exact .inr (Nat.pos_of_ne_zero h0)
          · rw [if_neg hlt]; exact e3 j (by omega) hj2
theorem tot5 (vs : Nat → Nat) : tot vs 5 0 = vs 0 * 86400000 + (vs 1 * 3600000 + (vs 2 * 60000 + (vs 3 * 1000 + (vs 4 * 1 + 0)))) := rfl
theorem tot_uniq {a b : Nat → Nat} (ha : ∀ i, i < 5 → uMost i = 0 ∨ a i < uMost i) (hb : ∀ i, i < 5 → uMost i = 0 ∨ b i < uMost i) (h : tot a 5 0 = tot b 5 0) : ∀ i, i < 5 → a i = b i := by
  rw [tot5, tot5] at h
  have a1 : a 1 < 24 := (ha 1 (by decide)).resolve_left (by decide)
  have a2 : a 2 < 60 := (ha 2 (by decide)).resolve_left (by decide)
  have a3 : a 3 < 60 := (ha 3 (by decide)).resolve_left (by decide)
  have a4 : a 4 < 1000 := (ha 4 (by decide)).resolve_left (by decide)
  have b1 : b 1 < 24 := (hb 1 (by decide)).resolve_left (by decide)
  have b2 : b 2 < 60 := (hb 2 (by decide)).resolve_left (by decide)
  have b3 : b 3 < 60 := (hb 3 (by decide)).resolve_left (by decide)
  have b4 : b 4 < 1000 := (hb 4 (by decide)).resolve_left (by decide)
  have e0 : a 0 = b 0 := by omega
  have e1 : a 1 = b 1 := by omega
  have e2 : a 2 = b 2 := by omega
  have e3 : a 3 = b 3 := by omega
  have e4 : a 4 = b 4 := by omega
  intro i hi
  rcases five hi with rfl | rfl | rfl | rfl | rfl
  · exact e0
  · exact e1
  · exact e2
  · exact e3
  · exact e4
theorem parse_canon {l : List UInt8} {n : Nat} (h : parseF l = (n, 0)) : n ≤ 1125899906842624 ∧ showF n = l := by
  unfold parseF at h
  by_cases h1 : l = [48, 115]
  · rw [if_pos h1] at h
    injection h with h _
    subst h
    exact ⟨by decide, by rw [h1]; rfl⟩
  rw [if_neg h1] at h
  by_cases h2 : l = []
  · rw [if_pos h2] at h
    injection h with _ h
    cases h
  rw [if_neg h2] at h
  cases hg : pGo (l.length + 1) l 0 0 with
  | none => rw [hg] at h; injection h with _ h; cases h
  | some P =>
    rw [hg] at h
    dsimp only at h
    by_cases h3 : 1125899906842624 < P
    · rw [if_pos h3] at h; injection h with _ h; cases h
    rw [if_neg h3] at h
    injection h with h _
    subst h
    refine ⟨by omega, ?_⟩
    obtain ⟨vs, e1, e2, e3⟩ := canon _ l 0 0 _ P (Nat.le_refl _) (by decide) (by decide) hg (by omega)
    have e1 : l = txt vs 5 0 := e1
    have e2 : P = tot vs 5 0 := by rw [Nat.zero_add] at e2; exact e2
    have hb : ∀ i, i < 5 → uMost i = 0 ∨ vs i < uMost i := fun i hi => e3 i (Nat.zero_le _) hi
    have hP : 0 < P := by
      refine Nat.pos_of_ne_zero fun h0 => h2 ?_
      have hz : ∀ i, i < 5 → vs i = (fun _ => 0) i := tot_uniq hb (fun i _ => by
        by_cases k : uMost i = 0
        · exact .inl k
        · exact .inr (Nat.pos_of_ne_zero k)) (by rw [← e2, h0]; rfl)
      have hz2 : txt vs 5 0 = txt (fun _ => 0) 5 0 := by
        simp only [txt, hz 0 (by decide), hz 1 (by decide), hz 2 (by decide), hz 3 (by decide), hz 4 (by decide)]
      rw [e1, hz2]
      rfl
    obtain ⟨s1, s2, s3⟩ := showF_txt P hP
    have hq := tot_uniq s3 hb (by rw [s2, e2])
    rw [s1, e1]
    simp only [txt, hq 0 (by decide), hq 1 (by decide), hq 2 (by decide), hq 3 (by decide), hq 4 (by decide)]
end Go.Proofs.YtbhhjaflinfnfaaDoor
