/- Round trips of test reports: the text of results is read as these results, and a text that is read is the text of its results; in plain words. -/
import Derived.Test.YtngbjnjkcniabaaGreatDoorRp9
namespace Go.Proofs.YtngbjnjkcniabaaGreatDoor

theorem pcs_cut (c : UInt8) : ∀ (l a : List UInt8) (L : List (List UInt8)), pcs c l = a :: L → (L = [] ∧ l = a) ∨ ∃ r, l = a ++ c :: r ∧ pcs c r = L
  | [], a, L, h => by
    rw [pcs] at h
    injection h with h1 h2
    exact .inl ⟨h2.symm, h1⟩
  | b :: l, a, L, h => by
    rw [pcs] at h
    by_cases e : b = c
    · rw [if_pos e] at h
      injection h with h1 h2
      subst h1 e
      exact .inr ⟨l, rfl, h2⟩
    · rw [if_neg e] at h
      injection h with h1 h2
      have hn := pcs_ne c l
      rcases pcs_cut c l _ _ hn with ⟨h3, h4⟩ | ⟨r, h3, h4⟩
      · left
        rw [h3] at h2
        rw [← h4] at h1
        exact ⟨h2.symm, h1⟩
      · right
        refine ⟨r, ?_, h4.trans h2⟩
        rw [← h1, List.cons_append, ← h3]
theorem pcs_three {l a b d : List UInt8} (h : pcs 32 l = [a, b, d]) : l = a ++ 32 :: (b ++ 32 :: d) := by
  rcases pcs_cut 32 l _ _ h with ⟨h1, _⟩ | ⟨r, h1, h2⟩
  · cases h1
  rcases pcs_cut 32 r _ _ h2 with ⟨h3, _⟩ | ⟨r2, h3, h4⟩
  · cases h3
  rcases pcs_cut 32 r2 _ _ h4 with ⟨_, h5⟩ | ⟨r3, _, h6⟩
  · rw [h1, h3, h5]
  · rw [pcs_ne] at h6; cases h6
theorem pcs_no {c : UInt8} : ∀ {a : List UInt8}, c ∉ a → pcs c a = [a]
  | [], _ => rfl
  | b :: a, h => by
    have h1 : b ≠ c := fun e => h (by rw [e]; exact List.mem_cons_self ..)
    have h2 : c ∉ a := fun e => h (List.mem_cons_of_mem _ e)
    rw [pcs, if_neg h1, pcs_no h2]
    rfl
theorem pcs_app {c : UInt8} (r : List UInt8) : ∀ {a : List UInt8}, c ∉ a → pcs c (a ++ c :: r) = a :: pcs c r
  | [], _ => by rw [List.nil_append, pcs, if_pos rfl]
  | b :: a, h => by
    have h1 : b ≠ c := fun e => h (by rw [e]; exact List.mem_cons_self ..)
    have h2 : c ∉ a := fun e => h (List.mem_cons_of_mem _ e)
    rw [List.cons_append, pcs, if_neg h1, pcs_app r h2]
    rfl
theorem index_app {c : UInt8} (r : List UInt8) : ∀ {a : List UInt8}, c ∉ a → Lib.index (a ++ c :: r) [c] = (a.length : Int)
  | [], _ => by rw [List.nil_append, idx_eq]; rfl
  | b :: a, h => by
    have h1 : b ≠ c := fun e => h (by rw [e]; exact List.mem_cons_self ..)
    have h2 : c ∉ a := fun e => h (List.mem_cons_of_mem _ e)
    rw [List.cons_append, idx_ne h1, index_app r h2, if_neg (by rw [beq_iff_eq]; omega)]
    simp
theorem index_cut {c : UInt8} : ∀ {l : List UInt8}, ¬ Lib.index l [c] < 0 → l = l.take (Lib.index l [c]).toNat ++ c :: l.drop ((Lib.index l [c]).toNat + 1)
  | [], h => absurd (by rw [idx_nil]; decide) h
  | b :: l, h => by
    by_cases e : b = c
    · subst e; rw [idx_eq]; rfl
    · rw [idx_ne e] at h ⊢
      by_cases h2 : Lib.index l [c] = -1
      · rw [if_pos (by simpa using h2)] at h; exact absurd (by decide) h
      · rw [if_neg (by simpa using h2)] at h ⊢
        have hg := Lib.index_ge l [c]
        have h3 : ¬ Lib.index l [c] < 0 := by omega
        have ih := index_cut h3
        have e4 : (Lib.index l [c] + 1).toNat = (Lib.index l [c]).toNat + 1 := by omega
        rw [e4, List.take_succ_cons, List.drop_succ_cons, List.cons_append, ← ih]

theorem b_toNat (m : Nat) (hm : m < 10) : (UInt8.ofNat (48 + m)).toNat = 48 + m := by
  rw [UInt8.toNat_ofNat']; omega
theorem dec_step {v : Nat} (h : ¬ v < 10) : Lib.decDigits v = Lib.decDigits (v / 10) ++ [UInt8.ofNat (48 + v % 10)] := by rw [Lib.decDigits, dif_neg h]
theorem dec_dig (v : Nat) : ∀ b ∈ Lib.decDigits v, isDig b = true := by
  induction v using Nat.strongRecOn with
  | _ v ih =>
    intro b hb
    by_cases h : v < 10
    · rw [Lib.decDigits_one h] at hb
      rw [List.mem_singleton.1 hb]
      unfold isDig
      rw [b_toNat v h]
      simp; omega
    · rw [dec_step h] at hb
      rcases List.mem_append.1 hb with hb | hb
      · exact ih (v / 10) (by omega) b hb
      · rw [List.mem_singleton.1 hb]
        unfold isDig
        rw [b_toNat _ (Nat.mod_lt _ (by decide))]
        simp; omega
theorem dec_ne (v : Nat) : Lib.decDigits v ≠ [] := by
  by_cases h : v < 10
  · rw [Lib.decDigits_one h]; simp
  · rw [dec_step h]; simp
theorem dec_head (v : Nat) (hv : 0 < v) : (Lib.decDigits v).headD 0 ≠ 48 := by
  induction v using Nat.strongRecOn with
  | _ v ih =>
    by_cases h : v < 10
    · rw [Lib.decDigits_one h]
      intro e
      have e2 := congrArg UInt8.toNat e
      simp only [List.headD_cons] at e2
      rw [b_toNat v h] at e2
      have : (48 : UInt8).toNat = 48 := rfl
      omega
    · rw [dec_step h]
      have h1 := ih (v / 10) (by omega) (by omega)
      have h2 := dec_ne (v / 10)
      cases hd : Lib.decDigits (v / 10) with
      | nil => exact absurd hd h2
      | cons a l => rw [hd] at h1; exact h1
theorem dec_num (v : Nat) : numV (Lib.decDigits v) = v := by
  induction v using Nat.strongRecOn with
  | _ v ih =>
    by_cases h : v < 10
    · rw [Lib.decDigits_one h]
      show 10 * 0 + ((UInt8.ofNat (48 + v)).toNat - 48) = v
      rw [b_toNat v h]; omega
    · rw [dec_step h]
      unfold numV at ih ⊢
      rw [List.foldl_append, ih (v / 10) (by omega)]
      show 10 * (v / 10) + ((UInt8.ofNat (48 + v % 10)).toNat - 48) = v
      rw [b_toNat _ (Nat.mod_lt _ (by decide))]; omega
theorem dec_digB (v : Nat) : digB (Lib.decDigits v) = true := by
  unfold digB
  have h1 : (Lib.decDigits v).all isDig = true := List.all_eq_true.2 (dec_dig v)
  have h2 : (Lib.decDigits v).isEmpty = false := by
    cases h : Lib.decDigits v with
    | nil => exact absurd h (dec_ne v)
    | cons a l => rfl
  rw [h1, h2]
  by_cases h3 : 0 < v
  · rw [decide_eq_false (dec_head v h3)]; simp
  · obtain rfl : v = 0 := by omega
    rw [Lib.decDigits_one (by decide)]; rfl
theorem isDig_rng {b : UInt8} (h : isDig b = true) : 48 ≤ b.toNat ∧ b.toNat ≤ 57 := by unfold isDig at h; simpa using h
theorem digB_parts {l : List UInt8} (h : digB l = true) : l ≠ [] ∧ ¬ (1 < l.length ∧ l.headD 0 = 48) ∧ ∀ b ∈ l, isDig b = true := by
  unfold digB at h
  simp only [Bool.and_eq_true, Bool.not_eq_true', Bool.and_eq_false_iff, decide_eq_false_iff_not, List.all_eq_true] at h
  refine ⟨fun e => ?_, fun e => ?_, h.2⟩
  · rw [e] at h; exact absurd h.1.1 (by decide)
  · rcases h.1.2 with h1 | h1
    · exact h1 e.1
    · exact h1 e.2
theorem num_dec : ∀ (n : Nat) (l : List UInt8), l.length = n + 1 → (∀ b ∈ l, isDig b = true) → ¬ (1 < l.length ∧ l.headD 0 = 48) → Lib.decDigits (numV l) = l
  | 0, l, hl, hd, _ => by
    match l, hl with
    | [b], _ =>
      have hb := isDig_rng (hd b (List.mem_cons_self ..))
      show Lib.decDigits (10 * 0 + (b.toNat - 48)) = [b]
      rw [Lib.decDigits_one (by omega)]
      congr 1
      apply UInt8.toNat_inj.1
      rw [b_toNat _ (by omega)]; omega
  | n + 1, l, hl, hd, hz => by
    obtain ⟨l', b, rfl⟩ : ∃ l' b, l = l' ++ [b] := ⟨l.dropLast, l.getLast (by intro e; rw [e] at hl; cases hl), (List.dropLast_concat_getLast _).symm⟩
    have hl' : l'.length = n + 1 := by simpa using hl
    have hb := isDig_rng (hd b (by simp))
    have hne : l' ≠ [] := by intro e; rw [e] at hl'; cases hl'
    have hhd : (l' ++ [b]).headD 0 = l'.headD 0 := by
      cases l' with
      | nil => exact absurd rfl hne
      | cons a l => rfl
    have hz' : l'.headD 0 ≠ 48 := fun e => hz ⟨by rw [List.length_append]; simp; omega, by rw [hhd]; exact e⟩
    have ih := num_dec n l' hl' (fun x hx => hd x (by simp [hx])) (fun e => hz' e.2)
    have hpos : 0 < numV l' := by
      refine Nat.pos_of_ne_zero fun e => hz' ?_
      rw [← ih, e, Lib.decDigits_one (by decide)]; rfl
    have hn : numV (l' ++ [b]) = 10 * numV l' + (b.toNat - 48) := by unfold numV; rw [List.foldl_append]; rfl
    rw [hn, dec_step (by omega), show (10 * numV l' + (b.toNat - 48)) / 10 = numV l' by omega, show (10 * numV l' + (b.toNat - 48)) % 10 = b.toNat - 48 by omega, ih]
    congr 2
    apply UInt8.toNat_inj.1
    rw [b_toNat _ (by omega)]; omega
theorem num_dec' {l : List UInt8} (h : digB l = true) : Lib.decDigits (numV l) = l := by
  obtain ⟨h1, h2, h3⟩ := digB_parts h
  obtain ⟨n, hn⟩ : ∃ n, l.length = n + 1 := ⟨l.length - 1, by have := List.length_pos_iff.2 h1; omega⟩
  exact num_dec n l hn h3 h2

theorem wordV_stat {l : List UInt8} (h : statV l ≠ 0) : wordV ((statV l : Nat) : Int) = l ∧ 1 ≤ statV l ∧ statV l ≤ 3 := by
  unfold statV at h ⊢
  by_cases h1 : l = [112, 97, 115, 115]
  · rw [if_pos h1, h1]; decide
  · by_cases h2 : l = [102, 97, 105, 108]
    · rw [if_neg h1, if_pos h2, h2]; decide
    · by_cases h3 : l = [115, 107, 105, 112]
      · rw [if_neg h1, if_neg h2, if_pos h3, h3]; decide
      · rw [if_neg h1, if_neg h2, if_neg h3] at h; exact absurd rfl h

theorem name_bytes {l : List UInt8} (h : nameF l = true) : ∀ b ∈ l, b ≠ 10 ∧ b ≠ 32 ∧ b ≠ 47 := by
  intro b hb
  unfold nameF at h
  simp only [Bool.and_eq_true, List.all_eq_true] at h
  obtain ⟨i, hi, rfl⟩ := List.getElem_of_mem hb
  have h1 := h.2 i (List.mem_range.2 hi)
  unfold atF at h1
  rw [List.getD, List.getElem?_eq_getElem hi] at h1
  simp only [Option.getD_some] at h1
  generalize l[i] = c at *
  have h2 : letF c = true ∨ punF c = true := by
    rcases Bool.or_eq_true _ _ |>.mp h1 with h | h
    · exact .inl h
    · exact .inr (by simp at h; exact h.2)
  have h3 : c.toNat ≠ 10 ∧ c.toNat ≠ 32 ∧ c.toNat ≠ 47 := by
    rcases h2 with h | h
    · unfold letF at h; simp at h; omega
    · unfold punF at h; simp at h; omega
  refine ⟨?_, ?_, ?_⟩ <;> (rintro rfl; revert h3; decide)
theorem path_bytes : ∀ {l : List UInt8} (L : List (List UInt8)), pcs 47 l = L → (∀ x ∈ L, ∀ b ∈ x, b ≠ 10 ∧ b ≠ 32) → ∀ b ∈ l, b ≠ 10 ∧ b ≠ 32
  | [], _, _, _, b, hb => by cases hb
  | a :: l, L, h, hx, b, hb => by
    rw [pcs] at h
    by_cases e : a = 47
    · rw [if_pos e] at h
      rcases List.mem_cons.1 hb with rfl | hb
      · subst e; decide
      · exact path_bytes _ rfl (fun x hx' => hx x (by rw [← h]; exact List.mem_cons_of_mem _ hx')) b hb
    · rw [if_neg e] at h
      have hn := pcs_ne 47 l
      rcases List.mem_cons.1 hb with rfl | hb
      · exact hx (b :: (pcs 47 l).headD []) (by rw [← h]; exact List.mem_cons_self ..) b (List.mem_cons_self ..)
      · refine path_bytes _ rfl (fun x hx' b hb => ?_) b hb
        rw [hn] at hx'
        rcases List.mem_cons.1 hx' with rfl | hx'
        · exact hx (a :: (pcs 47 l).headD []) (by rw [← h]; exact List.mem_cons_self ..) b (List.mem_cons_of_mem _ hb)
        · exact hx x (by rw [← h]; exact List.mem_cons_of_mem _ hx') b hb
theorem parts_bytes {l : List UInt8} (h : partsF l = 0) : ∀ b ∈ l, b ≠ 10 ∧ b ≠ 32 := by
  have hp : pathF l = true := by
    unfold partsF at h
    by_cases h1 : 512 < l.length
    · rw [if_pos h1] at h; cases h
    · rw [if_neg h1] at h
      by_cases h2 : pathF l = true
      · exact h2
      · rw [if_neg h2] at h; cases h
  unfold pathF at hp
  rw [List.all_eq_true] at hp
  exact path_bytes _ rfl fun x hx b hb => ⟨(name_bytes (hp x hx) b hb).1, (name_bytes (hp x hx) b hb).2.1⟩
theorem word_bytes (st : Int) : ∀ b ∈ wordV st, b ≠ 10 ∧ b ≠ 32 := by
  unfold wordV
  (repeat' split) <;> decide
theorem dec_bytes (v : Nat) : ∀ b ∈ Lib.decDigits v, b ≠ 10 ∧ b ≠ 32 := by
  intro b hb
  have := isDig_rng (dec_dig v b hb)
  refine ⟨?_, ?_⟩ <;> (rintro rfl; revert this; decide)

/-- a line without its line feed -/
def bodyV (q : Qu) : List UInt8 := wordV q.since ++ 32 :: (q.name.data.toList ++ 32 :: Lib.decDigits q.til.toNat)
def tr (q : Qu) : TR := (q.name.data.toList, q.since.toNat, q.til.toNat)
theorem line_body {q : Qu} (h : ¬ rangeR q) : lineV q = bodyV q ++ [10] := by
  have h1 := range_not h
  unfold lineV bodyV
  have e : Lib.itoa q.til = Lib.decDigits q.til.toNat := by
    have := Lib.itoa_nonneg q.til.toNat
    rwa [Int.toNat_of_nonneg h1.1] at this
  rw [e]
  simp
theorem body_bytes {q : Qu} (h : ¬ badR q) : (10 : UInt8) ∉ bodyV q := by
  intro hm
  unfold bodyV at hm
  rcases List.mem_append.1 hm with hm | hm
  · exact (word_bytes _ _ hm).1 rfl
  · rcases List.mem_cons.1 hm with hm | hm
    · revert hm; decide
    · rcases List.mem_append.1 hm with hm | hm
      · exact (parts_bytes (bad_not h).1 _ hm).1 rfl
      · rcases List.mem_cons.1 hm with hm | hm
        · revert hm; decide
        · exact (dec_bytes _ _ hm).1 rfl
theorem stat_wordV {st : Int} (h1 : 1 ≤ st) (h3 : st ≤ 3) : statV (wordV st) = st.toNat ∧ statV (wordV st) ≠ 0 := by
  rcases (show st = 1 ∨ st = 2 ∨ st = 3 by omega) with rfl | rfl | rfl <;> decide
theorem one_body {q : Qu} (hb : ¬ badR q) (hr : ¬ rangeR q) : oneF (bodyV q) = (0, tr q) := by
  have h1 := bad_not hb
  have h2 := range_not hr
  have hp : pcs 32 (bodyV q) = [wordV q.since, q.name.data.toList, Lib.decDigits q.til.toNat] := by
    unfold bodyV
    rw [pcs_app _ (fun hm => (word_bytes _ _ hm).2 rfl), pcs_app _ (fun hm => (parts_bytes h1.1 _ hm).2 rfl), pcs_no (fun hm => (dec_bytes _ _ hm).2 rfl)]
  unfold oneF
  rw [hp]
  have hs := stat_wordV h1.2.1 h1.2.2
  have hn := dec_num q.til.toNat
  show (if statV (wordV q.since) = 0 ∨ partsF q.name.data.toList ≠ 0 ∨ digB (Lib.decDigits q.til.toNat) = false then (5, ([], 0, 0)) else if 1125899906842624 < numV (Lib.decDigits q.til.toNat) then (2, ([], 0, 0)) else (0, (q.name.data.toList, statV (wordV q.since), numV (Lib.decDigits q.til.toNat)))) = _
  rw [if_neg (by
    rintro (h | h | h)
    · exact hs.2 h
    · exact h h1.1
    · rw [dec_digB] at h; cases h), if_neg (by rw [hn]; omega), hn, hs.1]
  rfl
theorem map_tr_names (acc : List Qu) : (acc.map tr).map (·.1) = acc.map (·.name.data.toList) := by rw [List.map_map]; rfl

/-- the lines of results are read -/
theorem read_lines (t : List UInt8) : ∀ (rs acc : List Qu) (f n : Nat), vTo acc rs = 0 → n + rs.length ≤ 4097 → parseTo (f + rs.length) n (acc.map tr) (linesV rs ++ t) = parseTo f (n + rs.length) ((acc ++ rs).map tr) t
  | [], acc, f, n, _, _ => by rw [List.append_nil]; rfl
  | q :: rs, acc, f, n, hv, hn => by
    have hq := vTo_all acc (q :: rs) hv q (List.mem_cons_self ..)
    rw [vTo, if_neg hq.1, if_neg hq.2] at hv
    have hin : q.name.data.toList ∉ acc.map (·.name.data.toList) := by
      intro h; rw [if_pos h] at hv; cases hv
    rw [if_neg hin] at hv
    have hs : linesV (q :: rs) ++ t = bodyV q ++ 10 :: (linesV rs ++ t) := by
      unfold linesV
      rw [List.flatMap_cons, line_body hq.2]
      simp
    have hix := index_app (linesV rs ++ t) (body_bytes hq.1)
    rw [hs, List.length_cons, show f + (rs.length + 1) = (f + rs.length) + 1 by omega, parseTo, if_neg (by simp), if_neg (by rw [List.length_cons] at hn; omega), hix, if_neg (by omega),
      show ((bodyV q).length : Int).toNat = (bodyV q).length by omega, List.take_left, one_body hq.1 hq.2]
    have e : List.drop ((bodyV q).length + 1) (bodyV q ++ 10 :: (linesV rs ++ t)) = linesV rs ++ t := by
      rw [List.drop_append]
      rw [List.drop_of_length_le (by omega), List.nil_append, show (bodyV q).length + 1 - (bodyV q).length = 1 by omega]
      rfl
    rw [e]
    show (if (tr q).1 ∈ (acc.map tr).map (·.1) then _ else _) = _
    rw [map_tr_names, if_neg (show (tr q).1 ∉ acc.map (·.name.data.toList) from hin)]
    have ih := read_lines t rs (acc ++ [q]) f (n + 1) hv (by rw [List.length_cons] at hn; omega)
    rw [List.map_append] at ih
    rw [show ([q] : List Qu).map tr = [tr q] from rfl] at ih
    rw [ih, List.append_assoc, show n + 1 + rs.length = n + (rs.length + 1) by omega]
    rfl
theorem lines_len : ∀ rs : List Qu, rs.length ≤ (linesV rs).length
  | [] => Nat.zero_le _
  | q :: rs => by
    have := lines_len rs
    unfold linesV at this ⊢
    rw [List.flatMap_cons, List.length_append, List.length_cons]
    have : 1 ≤ (lineV q).length := by unfold lineV; simp only [List.length_append, List.length_cons, List.length_nil]; omega
    omega
theorem parse_lines {rs : List Qu} (h : validR rs = 0) : parseF (linesV rs) = (rs.map tr, 0, 0) := by
  obtain ⟨hl, hv⟩ := validR_all h
  unfold parseF
  have hlen := lines_len rs
  obtain ⟨f, hf⟩ : ∃ f, (linesV rs).length + 1 = (f + 1) + rs.length := ⟨(linesV rs).length - rs.length, by omega⟩
  have := read_lines [] rs [] (f + 1) 1 hv (by omega)
  rw [List.append_nil, List.map_nil, List.nil_append] at this
  rw [hf, this, parseTo, if_pos rfl]

/-- a result as it stands in memory -/
def qu (r : TR) : Qu := ⟨⟨r.1.toArray⟩, (r.2.1 : Nat), (r.2.2 : Nat)⟩
theorem one_line {l : List UInt8} {r : TR} (h : oneF l = (0, r)) : ¬ badR (qu r) ∧ ¬ rangeR (qu r) ∧ lineV (qu r) = l ++ [10] := by
  unfold oneF at h
  split at h
  · rename_i a b c hp
    split at h
    · cases h
    · rename_i h1
      split at h
      · cases h
      · rename_i h2
        injection h with _ h
        subst h
        have h0 : statV a ≠ 0 := fun e => h1 (.inl e)
        have hpb : partsF b = 0 := Classical.byContradiction fun e => h1 (.inr (.inl e))
        have hdg : digB c = true := by
          cases hd : digB c with
          | true => rfl
          | false => exact absurd (.inr (.inr hd)) h1
        obtain ⟨hw, hs1, hs3⟩ := wordV_stat h0
        have hr : ¬ rangeR (qu (b, statV a, numV c)) := by
          unfold rangeR qu
          simp only
          omega
        refine ⟨?_, hr, ?_⟩
        · unfold badR qu
          simp only [hpb]
          omega
        · rw [line_body hr]
          unfold bodyV
          show wordV ((statV a : Nat) : Int) ++ 32 :: (b ++ 32 :: Lib.decDigits ((numV c : Nat) : Int).toNat) ++ [10] = _
          rw [hw, Int.toNat_natCast, num_dec' hdg, pcs_three hp]
  · cases h
theorem map_qu_names (A : List TR) : (A.map qu).map (·.name.data.toList) = A.map (·.1) := by
  rw [List.map_map]
  exact List.map_congr_left fun r _ => by simp [qu]
theorem read_back : ∀ (f n : Nat) (acc A : List TR) (s : List UInt8), parseTo f n acc s = (A, 0, 0) → s.length < f → n ≤ 4097 → ∃ B, A = acc ++ B ∧ linesV (B.map qu) = s ∧ vTo (acc.map qu) (B.map qu) = 0 ∧ n + B.length ≤ 4097
  | 0, _, _, _, s, _, h, _ => by omega
  | f + 1, n, acc, A, s, h, hl, hn => by
    rw [parseTo] at h
    by_cases h1 : s = []
    · rw [if_pos h1] at h
      injection h with h _
      exact ⟨[], by rw [List.append_nil]; exact h.symm, h1.symm, rfl, hn⟩
    · rw [if_neg h1] at h
      by_cases h2 : 4096 < n
      · rw [if_pos h2] at h; injection h with _ h; injection h with _ h; cases h
      · rw [if_neg h2] at h
        by_cases h3 : Lib.index s [10] < 0
        · rw [if_pos h3] at h; injection h with _ h; injection h with _ h; cases h
        · rw [if_neg h3] at h
          have hc := index_cut h3
          generalize List.take (Lib.index s [10]).toNat s = a at *
          generalize List.drop ((Lib.index s [10]).toNat + 1) s = r at *
          have hrl : r.length < f := by rw [hc] at hl; simp at hl; omega
          split at h
          · rename_i r1 ho
            split at h
            · injection h with _ h; injection h with _ h; cases h
            · rename_i hin
              obtain ⟨B, hA, hB, hv, hb⟩ := read_back f (n + 1) (acc ++ [r1]) A r h hrl (by omega)
              obtain ⟨o1, o2, o3⟩ := one_line ho
              refine ⟨r1 :: B, by rw [hA, List.append_assoc]; rfl, ?_, ?_, by rw [List.length_cons]; omega⟩
              · unfold linesV at hB ⊢
                rw [List.map_cons, List.flatMap_cons, hB, o3, hc]
                simp
              · rw [List.map_cons, vTo, if_neg o1, if_neg o2, map_qu_names, if_neg (by show ¬ (⟨r1.1.toArray⟩ : ByteArray).data.toList ∈ _; simpa using hin)]
                rw [List.map_append] at hv
                exact hv
          · rename_i e r1 hne ho
            injection h with _ h
            injection h with _ h
            subst h
            exact absurd rfl hne
theorem show_parsed {s : List UInt8} {A : List TR} (h : parseF s = (A, 0, 0)) : showV (A.map qu) = s := by
  obtain ⟨B, hA, hB, hv, hb⟩ := read_back _ _ _ _ _ h (Nat.lt_succ_self _) (by decide)
  rw [List.nil_append] at hA
  subst hA
  have h0 : validR (A.map qu) = 0 := by
    unfold validR
    rw [if_neg (by rw [List.length_map]; omega)]
    exact hv
  unfold showV
  rw [if_pos h0, hB]
end Go.Proofs.YtngbjnjkcniabaaGreatDoor
