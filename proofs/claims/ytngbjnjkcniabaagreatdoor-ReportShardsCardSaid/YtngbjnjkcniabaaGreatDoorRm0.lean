/- Merging lists of test results, in plain words: insertion by name, validity of a list, orders of merging. -/
import Derived.Test.YtngbjnjkcniabaaGreatDoorRp8
import Derived.Test.YtngbjnjkcniabaaGreatDoorNatS
namespace Go.Proofs.YtngbjnjkcniabaaGreatDoor

abbrev nmQ (q : Qu) : Bs := q.name.data.toList
def AscQ (l : List Qu) : Prop := l.Pairwise (fun x y => natC (nmQ x) (nmQ y) < 0)
theorem ascQ_ext : ∀ (l m : List Qu), AscQ l → AscQ m → (∀ x, x ∈ l ↔ x ∈ m) → l = m
  | [], [], _, _, _ => rfl
  | [], y :: m, _, _, h => by have := (h y).2 (List.mem_cons_self ..); simp at this
  | x :: l, [], _, _, h => by have := (h x).1 (List.mem_cons_self ..); simp at this
  | x :: l, y :: m, hl, hm, h => by
    unfold AscQ at hl hm
    rw [List.pairwise_cons] at hl hm
    have e : x = y := by
      rcases List.mem_cons.1 ((h x).1 (List.mem_cons_self ..)) with h1 | h1
      · exact h1
      · rcases List.mem_cons.1 ((h y).2 (List.mem_cons_self ..)) with h2 | h2
        · exact h2.symm
        · exact (lt_asy (hl.1 y h2) (hm.1 x h1)).elim
    subst e
    rw [ascQ_ext l m hl.2 hm.2 fun z => by
      constructor
      · intro hz
        rcases List.mem_cons.1 ((h z).1 (List.mem_cons_of_mem _ hz)) with rfl | h1
        · exact (lt_irr (hl.1 z hz)).elim
        · exact h1
      · intro hz
        rcases List.mem_cons.1 ((h z).2 (List.mem_cons_of_mem _ hz)) with rfl | h1
        · exact (lt_irr (hm.1 z hz)).elim
        · exact h1]

def atQ (q : Qu) (L : List Qu) : Nat := atT (nmQ q) (L.map nmQ) L.length
def putQ (L : List Qu) (q : Qu) : List Qu := L.take (atQ q L) ++ q :: L.drop (atQ q L)
theorem atQ_le (q : Qu) (L : List Qu) : atQ q L ≤ L.length := atT_le _ _ _
theorem putQ_perm (L : List Qu) (q : Qu) : (putQ L q).Perm (q :: L) := by
  unfold putQ
  have h := List.perm_middle (a := q) (l₁ := L.take (atQ q L)) (l₂ := L.drop (atQ q L))
  rwa [List.take_append_drop] at h
theorem nm_getD {L : List Qu} {j : Nat} (h : j < L.length) : (L.map nmQ).getD j [] = nmQ L[j] := by
  rw [List.getD, List.getElem?_map, List.getElem?_eq_getElem h]; rfl
theorem putQ_asc {L : List Qu} {q : Qu} (hL : AscQ L) (hq : nmQ q ∉ L.map nmQ) : AscQ (putQ L q) := by
  have hup := atT_above (nmQ q) (L.map nmQ) L.length
  have hbl := atT_below (nmQ q) (L.map nmQ) L.length
  have hle := atQ_le q L
  change ∀ j, atQ q L ≤ j → _ at hup
  change ∀ j, j + 1 = atQ q L → _ at hbl
  unfold putQ
  generalize atQ q L = a at *
  have hidx := List.pairwise_iff_getElem.1 hL
  have hlow : ∀ j (hj : j < a), natC (nmQ (L[j]'(by omega))) (nmQ q) < 0 := by
    intro j hj
    have h1 := hbl (a - 1) (by omega)
    rw [nm_getD (by omega)] at h1
    have h2 : natC (nmQ (L[a - 1]'(by omega))) (nmQ q) < 0 := by
      have ha := natC_po.anti (nmQ q) (nmQ (L[a - 1]'(by omega)))
      have hne : natC (nmQ (L[a - 1]'(by omega))) (nmQ q) ≠ 0 := fun e => hq (by rw [← natC_eq e]; exact List.mem_map.2 ⟨_, List.getElem_mem _, rfl⟩)
      omega
    by_cases hja : j = a - 1
    · subst hja; exact h2
    · exact lt_tr (hidx j (a - 1) (by omega) (by omega) (by omega)) h2
  unfold AscQ
  rw [List.pairwise_append]
  refine ⟨List.Pairwise.sublist (List.take_sublist _ _) hL, ?_, ?_⟩
  · rw [List.pairwise_cons]
    refine ⟨fun y hy => ?_, List.Pairwise.sublist (List.drop_sublist _ _) hL⟩
    obtain ⟨j, hj, rfl⟩ := List.getElem_of_mem hy
    rw [List.length_drop] at hj
    have h1 := hup (a + j) (by omega) (by omega)
    rw [nm_getD (by omega)] at h1
    rw [List.getElem_drop]
    exact h1
  · intro x hx y hy
    obtain ⟨i, hi, rfl⟩ := List.getElem_of_mem hx
    rw [List.length_take] at hi
    have h1 := hlow i (by omega)
    rw [List.getElem_take]
    rcases List.mem_cons.1 hy with rfl | hy
    · exact h1
    · obtain ⟨j, hj, rfl⟩ := List.getElem_of_mem hy
      rw [List.length_drop] at hj
      rw [List.getElem_drop]
      exact hidx i (a + j) (by omega) (by omega) (by omega)

def sortQ (rs : List Qu) : List Qu := rs.foldl putQ []
theorem fold_perm : ∀ (rs L : List Qu), (rs.foldl putQ L).Perm (L ++ rs)
  | [], L => by rw [List.append_nil]; exact List.Perm.refl _
  | q :: rs, L => by
    rw [List.foldl_cons]
    refine (fold_perm rs (putQ L q)).trans ?_
    refine ((putQ_perm L q).append_right rs).trans ?_
    rw [List.cons_append]
    exact List.perm_middle.symm
theorem sortQ_perm (rs : List Qu) : (sortQ rs).Perm rs := fold_perm rs []
theorem fold_asc : ∀ (rs L : List Qu), AscQ L → ((L ++ rs).map nmQ).Nodup → AscQ (rs.foldl putQ L)
  | [], L, h, _ => h
  | q :: rs, L, h, hn => by
    rw [List.foldl_cons]
    have hn2 : ((putQ L q ++ rs).map nmQ).Nodup := by
      have hp : (putQ L q ++ rs).Perm (L ++ q :: rs) := by
        refine ((putQ_perm L q).append_right rs).trans ?_
        rw [List.cons_append]
        exact List.perm_middle.symm
      exact (hp.map nmQ).nodup_iff.2 hn
    refine fold_asc rs _ (putQ_asc h ?_) hn2
    intro hm
    rw [List.map_append, List.nodup_append] at hn
    exact hn.2.2 _ hm _ (by rw [List.map_cons]; exact List.mem_cons_self ..) rfl
theorem sortQ_asc {rs : List Qu} (hn : (rs.map nmQ).Nodup) : AscQ (sortQ rs) := fold_asc rs [] List.Pairwise.nil (by rw [List.nil_append]; exact hn)
theorem sortQ_eq {rs ms : List Qu} (hn : (rs.map nmQ).Nodup) (hp : rs.Perm ms) : sortQ rs = sortQ ms :=
  ascQ_ext _ _ (sortQ_asc hn) (sortQ_asc ((hp.map nmQ).nodup_iff.1 hn)) fun _ => (((sortQ_perm rs).trans hp).trans (sortQ_perm ms).symm).mem_iff
theorem sorted_is {rs ms : List Qu} (hn : (rs.map nmQ).Nodup) (hp : ms.Perm rs) (hs : ∀ i j, i < j → (hj : j < ms.length) → (hi : i < ms.length) → ¬ natC (nmQ ms[j]) (nmQ ms[i]) < 0) : ms = sortQ rs := by
  refine ascQ_ext _ _ ?_ (sortQ_asc hn) fun _ => (hp.trans (sortQ_perm rs).symm).mem_iff
  refine List.pairwise_iff_getElem.2 fun i j hi hj hij => ?_
  have h1 := hs i j hij hj hi
  have h2 := natC_po.anti (nmQ ms[i]) (nmQ ms[j])
  have h3 : natC (nmQ ms[i]) (nmQ ms[j]) ≠ 0 := fun e => by
    have hnm : (ms.map nmQ).Nodup := (hp.map nmQ).nodup_iff.2 hn
    have := List.pairwise_iff_getElem.1 hnm i j (by simpa using hi) (by simpa using hj) hij
    rw [List.getElem_map, List.getElem_map] at this
    exact this (natC_eq e)
  omega

/-! ### validity -/
theorem vTo_iff : ∀ (acc rs : List Qu), vTo acc rs = 0 ↔ (∀ q ∈ rs, ¬ badR q ∧ ¬ rangeR q) ∧ (∀ q ∈ rs, nmQ q ∉ acc.map nmQ) ∧ (rs.map nmQ).Nodup
  | acc, [] => by simp [vTo]
  | acc, q :: rs => by
    rw [vTo]
    by_cases h1 : badR q
    · rw [if_pos h1]
      exact ⟨fun h => absurd h (by decide), fun h => absurd h1 (h.1 q (List.mem_cons_self ..)).1⟩
    · by_cases h2 : rangeR q
      · rw [if_neg h1, if_pos h2]
        exact ⟨fun h => absurd h (by decide), fun h => absurd h2 (h.1 q (List.mem_cons_self ..)).2⟩
      · rw [if_neg h1, if_neg h2]
        by_cases h3 : nmQ q ∈ acc.map nmQ
        · rw [if_pos h3]
          exact ⟨fun h => absurd h (by decide), fun h => absurd h3 (h.2.1 q (List.mem_cons_self ..))⟩
        · rw [if_neg h3, vTo_iff (acc ++ [q]) rs, List.map_cons, List.nodup_cons]
          constructor
          · rintro ⟨a1, a2, a3⟩
            refine ⟨fun x hx => ?_, fun x hx => ?_, ?_, a3⟩
            · rcases List.mem_cons.1 hx with rfl | hx
              · exact ⟨h1, h2⟩
              · exact a1 x hx
            · rcases List.mem_cons.1 hx with rfl | hx
              · exact h3
              · intro hm
                exact a2 x hx (by rw [List.map_append]; exact List.mem_append_left _ hm)
            · intro hm
              obtain ⟨x, hx, e⟩ := List.mem_map.1 hm
              exact a2 x hx (by rw [List.map_append, e]; exact List.mem_append_right _ (List.mem_singleton.2 rfl))
          · rintro ⟨a1, a2, a3, a4⟩
            refine ⟨fun x hx => a1 x (List.mem_cons_of_mem _ hx), fun x hx hm => ?_, a4⟩
            rw [List.map_append] at hm
            rcases List.mem_append.1 hm with hm | hm
            · exact a2 x (List.mem_cons_of_mem _ hx) hm
            · have e := List.mem_singleton.1 hm
              exact a3 (by rw [← e]; exact List.mem_map.2 ⟨x, hx, rfl⟩)
theorem validR_iff (rs : List Qu) : validR rs = 0 ↔ rs.length ≤ 4096 ∧ (∀ q ∈ rs, ¬ badR q ∧ ¬ rangeR q) ∧ (rs.map nmQ).Nodup := by
  unfold validR
  by_cases h : 4096 < rs.length
  · rw [if_pos h]
    exact ⟨fun e => absurd e (by decide), fun e => by omega⟩
  · rw [if_neg h, vTo_iff]
    exact ⟨fun e => ⟨by omega, e.1, e.2.2⟩, fun e => ⟨e.2.1, fun _ _ => by simp, e.2.2⟩⟩
theorem validR_perm {rs ms : List Qu} (hp : rs.Perm ms) : validR rs = 0 ↔ validR ms = 0 := by
  rw [validR_iff, validR_iff, hp.length_eq, (hp.map nmQ).nodup_iff]
  exact ⟨fun h => ⟨h.1, fun q hq => h.2.1 q (hp.mem_iff.2 hq), h.2.2⟩, fun h => ⟨h.1, fun q hq => h.2.1 q (hp.mem_iff.1 hq), h.2.2⟩⟩
/-- a list behind a list whose names it may share -/
theorem vTo_app : ∀ (p acc b : List Qu), vTo p b = 0 → vTo (acc ++ p) b = if b.any (fun q => decide (nmQ q ∈ acc.map nmQ)) then 7 else 0
  | p, acc, [], _ => rfl
  | p, acc, q :: b, h => by
    rw [vTo] at h ⊢
    by_cases h1 : badR q
    · rw [if_pos h1] at h; cases h
    · by_cases h2 : rangeR q
      · rw [if_neg h1, if_pos h2] at h; cases h
      · rw [if_neg h1, if_neg h2] at h ⊢
        by_cases h3 : nmQ q ∈ p.map nmQ
        · rw [if_pos h3] at h; cases h
        · rw [if_neg h3] at h
          have ih := vTo_app (p ++ [q]) acc b h
          rw [← List.append_assoc] at ih
          rw [List.any_cons]
          by_cases h4 : nmQ q ∈ acc.map nmQ
          · rw [if_pos (by rw [List.map_append]; exact List.mem_append_left _ h4), decide_eq_true h4]; rfl
          · rw [if_neg (by rw [List.map_append]; intro hm; exact (List.mem_append.1 hm).elim h4 h3), ih, decide_eq_false h4, Bool.false_or]
theorem vTo_cat (b : List Qu) : ∀ (a acc : List Qu), vTo acc a = 0 → vTo acc (a ++ b) = vTo (acc ++ a) b
  | [], acc, _ => by rw [List.append_nil]; rfl
  | q :: a, acc, h => by
    rw [vTo] at h
    rw [List.cons_append, vTo]
    by_cases h1 : badR q
    · rw [if_pos h1] at h; cases h
    · by_cases h2 : rangeR q
      · rw [if_neg h1, if_pos h2] at h; cases h
      · rw [if_neg h1, if_neg h2] at h ⊢
        by_cases h3 : nmQ q ∈ acc.map nmQ
        · rw [if_pos h3] at h; cases h
        · rw [if_neg h3] at h ⊢
          rw [vTo_cat b a (acc ++ [q]) h, List.append_assoc]
          rfl
def shares (a b : List Qu) : Bool := b.any fun q => decide (nmQ q ∈ a.map nmQ)
/-- the error's number of two lists merged -/
def mergeE (a b : List Qu) : Nat := if validR a ≠ 0 then validR a else if validR b ≠ 0 then validR b else if 4096 < a.length + b.length then 15 else if shares a b then 7 else 0
theorem mergeE_all {a b : List Qu} (ha : validR a = 0) (hb : validR b = 0) : mergeE a b = validR (a ++ b) := by
  unfold mergeE
  rw [if_neg (fun h => h ha), if_neg (fun h => h hb)]
  have e : validR (a ++ b) = if 4096 < a.length + b.length then 15 else vTo [] (a ++ b) := by unfold validR; rw [List.length_append]
  rw [e]
  split
  · rfl
  · have h1 := ((validR_iff a).1 ha).2
    have h2 : vTo [] a = 0 := (vTo_iff [] a).2 ⟨h1.1, fun _ _ => by simp, h1.2⟩
    have g1 := ((validR_iff b).1 hb).2
    have g2 : vTo [] b = 0 := (vTo_iff [] b).2 ⟨g1.1, fun _ _ => by simp, g1.2⟩
    rw [vTo_cat b a [] h2, List.nil_append]
    have := vTo_app [] a b g2
    rw [List.append_nil] at this
    rw [this]
    rfl
theorem mergeE_zero (a b : List Qu) : mergeE a b = 0 ↔ validR (a ++ b) = 0 := by
  constructor
  · intro h
    have ha : validR a = 0 := by
      unfold mergeE at h
      by_cases h1 : validR a = 0
      · exact h1
      · rw [if_pos h1] at h; exact h
    have hb : validR b = 0 := by
      unfold mergeE at h
      rw [if_neg (fun k => k ha)] at h
      by_cases h1 : validR b = 0
      · exact h1
      · rw [if_pos h1] at h; exact h
    rw [← mergeE_all ha hb]; exact h
  · intro h
    have h1 := (validR_iff _).1 h
    have ha : validR a = 0 := (validR_iff _).2 ⟨by rw [List.length_append] at h1; omega, fun q hq => h1.2.1 q (List.mem_append_left _ hq), by
      have := h1.2.2; rw [List.map_append, List.nodup_append] at this; exact this.1⟩
    have hb : validR b = 0 := (validR_iff _).2 ⟨by rw [List.length_append] at h1; omega, fun q hq => h1.2.1 q (List.mem_append_right _ hq), by
      have := h1.2.2; rw [List.map_append, List.nodup_append] at this; exact this.2.1⟩
    rw [mergeE_all ha hb]; exact h
def mergeF (a b : List Qu) : List Qu := if mergeE a b = 0 then sortQ (a ++ b) else []
theorem mergeF_perm {a b : List Qu} (h : mergeE a b = 0) : (mergeF a b).Perm (a ++ b) := by unfold mergeF; rw [if_pos h]; exact sortQ_perm _
theorem merge_swap (a b : List Qu) : (mergeE a b = 0 ↔ mergeE b a = 0) ∧ mergeF a b = mergeF b a := by
  have h : mergeE a b = 0 ↔ mergeE b a = 0 := by rw [mergeE_zero, mergeE_zero]; exact validR_perm List.perm_append_comm
  refine ⟨h, ?_⟩
  unfold mergeF
  by_cases h1 : mergeE a b = 0
  · rw [if_pos h1, if_pos (h.1 h1)]
    exact sortQ_eq ((validR_iff _).1 ((mergeE_zero a b).1 h1)).2.2 List.perm_append_comm
  · rw [if_neg h1, if_neg (fun k => h1 (h.2 k))]
theorem merge_three (a b c : List Qu) (h1 : mergeE a b = 0) (h2 : mergeE b c = 0) :
    (mergeE (mergeF a b) c = 0 ↔ mergeE a (mergeF b c) = 0) ∧ mergeF (mergeF a b) c = mergeF a (mergeF b c) ∧ (mergeE (mergeF a b) c = 0 → (mergeF (mergeF a b) c).length = a.length + b.length + c.length) := by
  have p1 : (mergeF a b ++ c).Perm (a ++ mergeF b c) := by
    refine ((mergeF_perm h1).append_right c).trans ?_
    rw [List.append_assoc]
    exact (mergeF_perm h2).symm.append_left a
  have h : mergeE (mergeF a b) c = 0 ↔ mergeE a (mergeF b c) = 0 := by rw [mergeE_zero, mergeE_zero]; exact validR_perm p1
  refine ⟨h, ?_, fun h3 => ?_⟩
  · generalize mergeF a b = x at *
    generalize mergeF b c = y at *
    unfold mergeF
    by_cases h3 : mergeE x c = 0
    · rw [if_pos h3, if_pos (h.1 h3)]
      exact sortQ_eq ((validR_iff _).1 ((mergeE_zero x c).1 h3)).2.2 p1
    · rw [if_neg h3, if_neg (fun k => h3 (h.2 k))]
  · rw [(mergeF_perm h3).length_eq, List.length_append, (mergeF_perm h1).length_eq, List.length_append]
end Go.Proofs.YtngbjnjkcniabaaGreatDoor
