/- Graphs in plain words: what package graph and the reference compute; no program in sight. -/
import Derived.Test.YtfegmmafcopbpaaGreatDoorNatS
import Derived.Test.YtfegmmafcopbpaaGreatDoorPieces
/- Graphs as lists of names with what they need: what package graph computes, in plain words; no program in sight. -/
namespace Go.Proofs.YtfegmmafcopbpaaGreatDoor

/-- a graph: each node with what it needs -/
abbrev Gr := List (Bs × List Bs)
def idsG (G : Gr) : List Bs := G.map (·.1)

def idsF : List Bs → Gr → Nat
  | _, [] => 0
  | seen, x :: r => if partsF x.1 ≠ 0 then 1 else if x.1 ∈ seen then 7 else idsF (seen ++ [x.1]) r
def needF (all : List Bs) : List Bs → List Bs → Nat
  | _, [] => 0
  | seen, b :: l => if b ∉ all then 8 else if b ∈ seen then 7 else needF all (seen ++ [b]) l
def needsF (all : List Bs) : Gr → Nat
  | [] => 0
  | x :: r => if needF all [] x.2 = 0 then needsF all r else needF all [] x.2
/-- the error of a graph, apart from cycles -/
def formedF (G : Gr) : Nat := if 1024 < G.length then 15 else if idsF [] G = 0 then needsF (idsG G) G else idsF [] G

theorem idsF_ok : ∀ (G : Gr) (seen : List Bs), idsF seen G = 0 ↔ (∀ x ∈ G, partsF x.1 = 0) ∧ (idsG G).Nodup ∧ ∀ x ∈ G, x.1 ∉ seen
  | [], seen => by simp [idsF, idsG]
  | x :: r, seen => by
    have ih := idsF_ok r (seen ++ [x.1])
    rw [idsF]
    by_cases h1 : partsF x.1 = 0
    · by_cases h2 : x.1 ∈ seen
      · simp [h1, h2]
      · simp only [h1, ne_eq, not_true_eq_false, if_false, h2, ih, idsG, List.map_cons, List.nodup_cons, List.mem_cons, forall_eq_or_imp, List.mem_append, not_or, true_and, List.mem_map, not_exists, not_and, List.not_mem_nil, or_false]
        constructor
        · rintro ⟨h3, h4, h5⟩
          exact ⟨h3, ⟨fun y hy e => (h5 y hy).2 e, h4⟩, not_false, fun y hy => (h5 y hy).1⟩
        · rintro ⟨h3, ⟨h4, h5⟩, _, h6⟩
          exact ⟨h3, h5, fun y hy => ⟨h6 y hy, h4 y hy⟩⟩
    · simp [h1]

theorem needF_ok (all : List Bs) : ∀ (l seen : List Bs), needF all seen l = 0 ↔ (∀ b ∈ l, b ∈ all) ∧ l.Nodup ∧ ∀ b ∈ l, b ∉ seen
  | [], seen => by simp [needF]
  | b :: l, seen => by
    have ih := needF_ok all l (seen ++ [b])
    rw [needF]
    by_cases h1 : b ∈ all
    · by_cases h2 : b ∈ seen
      · simp [h1, h2]
      · simp only [h1, not_true_eq_false, if_false, h2, ih, List.nodup_cons, List.mem_cons, forall_eq_or_imp, List.mem_append, not_or, true_and, List.not_mem_nil, or_false]
        constructor
        · rintro ⟨h3, h4, h5⟩
          exact ⟨h3, ⟨fun hb => (h5 b hb).2 rfl, h4⟩, not_false, fun y hy => (h5 y hy).1⟩
        · rintro ⟨h3, ⟨h4, h5⟩, _, h6⟩
          exact ⟨h3, h5, fun y hy => ⟨h6 y hy, fun e => h4 (e ▸ hy)⟩⟩
    · simp [h1]

theorem needsF_ok (all : List Bs) : ∀ G : Gr, needsF all G = 0 ↔ ∀ x ∈ G, (∀ b ∈ x.2, b ∈ all) ∧ x.2.Nodup
  | [] => by simp [needsF]
  | x :: r => by
    have ih := needsF_ok all r
    have h := needF_ok all x.2 []
    rw [needsF]
    by_cases h1 : needF all [] x.2 = 0
    · rw [if_pos h1, ih]
      simp only [List.mem_cons, forall_eq_or_imp]
      constructor
      · intro h2
        exact ⟨⟨(h.1 h1).1, (h.1 h1).2.1⟩, h2⟩
      · exact fun h2 => h2.2
    · rw [if_neg h1]
      constructor
      · exact fun h2 => absurd h2 h1
      · intro h2
        exact absurd (h.2 ⟨(h2 x (by simp)).1, (h2 x (by simp)).2, by simp⟩) h1

/-- a graph without errors, apart from cycles -/
structure Sound (G : Gr) : Prop where
  len : G.length ≤ 1024
  parts : ∀ x ∈ G, partsF x.1 = 0
  nodup : (idsG G).Nodup
  needs : ∀ x ∈ G, (∀ b ∈ x.2, b ∈ idsG G) ∧ x.2.Nodup

theorem formed_sound {G : Gr} (h : formedF G = 0) : Sound G := by
  unfold formedF at h
  by_cases h1 : 1024 < G.length
  · rw [if_pos h1] at h; cases h
  · rw [if_neg h1] at h
    by_cases h2 : idsF [] G = 0
    · rw [if_pos h2] at h
      have h3 := (idsF_ok G []).1 h2
      exact ⟨by omega, h3.1, h3.2.1, (needsF_ok _ G).1 h⟩
    · rw [if_neg h2] at h
      exact absurd h h2

/-- the place of a name; its name; what it needs; what needs it -/
def posG (G : Gr) (b : Bs) : Nat := (idsG G).idxOf b
def idA (G : Gr) (i : Nat) : Bs := (G.getD i ([], [])).1
def needA (G : Gr) (i : Nat) : List Bs := (G.getD i ([], [])).2
def ab (G : Gr) (i : Nat) : List Nat := (needA G i).map (posG G)
def be (G : Gr) (k : Nat) : List Nat := (List.range G.length).filter fun i => decide (k ∈ ab G i)

theorem idA_mem {G : Gr} {i : Nat} (h : i < G.length) : idA G i ∈ idsG G := by
  unfold idA idsG
  rw [List.getD_eq_getElem?_getD, List.getElem?_eq_getElem h]
  exact List.mem_map.2 ⟨G[i], List.getElem_mem h, rfl⟩
theorem idA_ids {G : Gr} {i : Nat} (h : i < (idsG G).length) : idA G i = (idsG G)[i] := by
  have h' : i < G.length := by simpa [idsG] using h
  unfold idA
  simp only [idsG, List.getElem_map]
  rw [List.getD_eq_getElem?_getD, List.getElem?_eq_getElem h']
  rfl
theorem ids_len (G : Gr) : (idsG G).length = G.length := by simp [idsG]
theorem posG_lt {G : Gr} {b : Bs} (h : b ∈ idsG G) : posG G b < G.length := by
  rw [← ids_len]; exact List.idxOf_lt_length_of_mem h
theorem idA_pos {G : Gr} {b : Bs} (h : b ∈ idsG G) : idA G (posG G b) = b := by
  have h' := posG_lt h
  rw [← ids_len] at h'
  rw [idA_ids h']
  exact List.getElem_idxOf h'
theorem posG_id {G : Gr} (hn : (idsG G).Nodup) {i : Nat} (h : i < G.length) : posG G (idA G i) = i := by
  rw [idA_ids (by rw [ids_len]; exact h)]
  exact hn.idxOf_getElem i (by rw [ids_len]; exact h)
theorem posG_inj {G : Gr} {a b : Bs} (ha : a ∈ idsG G) (hb : b ∈ idsG G) (h : posG G a = posG G b) : a = b := by
  rw [← idA_pos ha, h, idA_pos hb]
theorem idA_inj {G : Gr} (hn : (idsG G).Nodup) {i k : Nat} (hi : i < G.length) (hk : k < G.length) (h : idA G i = idA G k) : i = k := by
  rw [← posG_id hn hi, h, posG_id hn hk]
theorem need_mem {G : Gr} {i : Nat} {b : Bs} (h : b ∈ needA G i) : ∃ h : i < G.length, b ∈ G[i].2 := by
  unfold needA at h
  by_cases hi : i < G.length
  · refine ⟨hi, ?_⟩
    rw [List.getD_eq_getElem?_getD, List.getElem?_eq_getElem hi] at h
    exact h
  · rw [List.getD_eq_getElem?_getD, List.getElem?_eq_none (by omega)] at h
    cases h
theorem Sound.need {G : Gr} (hs : Sound G) {i : Nat} {b : Bs} (h : b ∈ needA G i) : b ∈ idsG G := by
  obtain ⟨hi, hb⟩ := need_mem h
  exact (hs.needs _ (List.getElem_mem hi)).1 b hb
theorem needA_nodup {G : Gr} (hs : Sound G) (i : Nat) : (needA G i).Nodup := by
  unfold needA
  by_cases hi : i < G.length
  · rw [List.getD_eq_getElem?_getD, List.getElem?_eq_getElem hi]
    exact (hs.needs _ (List.getElem_mem hi)).2
  · rw [List.getD_eq_getElem?_getD, List.getElem?_eq_none (by omega)]
    exact List.nodup_nil
theorem Sound.ab_lt {G : Gr} (hs : Sound G) {i k : Nat} (h : k ∈ ab G i) : k < G.length ∧ i < G.length := by
  obtain ⟨b, hb, rfl⟩ := List.mem_map.1 h
  exact ⟨posG_lt (hs.need hb), (need_mem hb).1⟩
theorem Sound.ab_nodup {G : Gr} (hs : Sound G) (i : Nat) : (ab G i).Nodup := by
  unfold ab
  rw [List.Nodup, List.pairwise_map]
  refine (needA_nodup hs i).imp_of_mem fun ha hb hne e => hne (posG_inj (hs.need ha) (hs.need hb) e)
theorem mem_be {G : Gr} (hs : Sound G) {i k : Nat} : i ∈ be G k ↔ k ∈ ab G i := by
  unfold be
  rw [List.mem_filter, List.mem_range, decide_eq_true_eq]
  exact ⟨fun h => h.2, fun h => ⟨(hs.ab_lt h).2, h⟩⟩
theorem be_nodup (G : Gr) (k : Nat) : (be G k).Nodup := List.nodup_range.filter _
theorem be_lt {G : Gr} {i k : Nat} (h : i ∈ be G k) : i < G.length := by
  unfold be at h
  rw [List.mem_filter, List.mem_range] at h
  exact h.1

/-- of a list, the element whose name is first -/
def bestF (id : Nat → Bs) : Option Nat → List Nat → Option Nat
  | b, [] => b
  | none, i :: l => bestF id (some i) l
  | some j, i :: l => if natC (id i) (id j) < 0 then bestF id (some i) l else bestF id (some j) l
def firstF (id : Nat → Bs) (l : List Nat) : Option Nat := bestF id none l

theorem bestF_some (id : Nat → Bs) : ∀ (l : List Nat) (j : Nat), ∃ m, bestF id (some j) l = some m ∧ (m = j ∨ m ∈ l) ∧ natC (id m) (id j) ≤ 0 ∧ ∀ x ∈ l, natC (id m) (id x) ≤ 0
  | [], j => ⟨j, rfl, .inl rfl, by rw [natC_po.refl]; exact Int.le_refl _, by simp⟩
  | i :: l, j => by
    rw [bestF]
    by_cases h : natC (id i) (id j) < 0
    · rw [if_pos h]
      obtain ⟨m, h1, h2, h3, h4⟩ := bestF_some id l i
      refine ⟨m, h1, .inr ?_, natC_po.trans _ _ _ h3 (by omega), ?_⟩
      · rcases h2 with rfl | h2
        · simp
        · simp [h2]
      · intro x hx
        rcases List.mem_cons.1 hx with rfl | hx
        · exact h3
        · exact h4 x hx
    · rw [if_neg h]
      obtain ⟨m, h1, h2, h3, h4⟩ := bestF_some id l j
      refine ⟨m, h1, ?_, h3, ?_⟩
      · rcases h2 with h2 | h2
        · exact .inl h2
        · exact .inr (by simp [h2])
      · intro x hx
        rcases List.mem_cons.1 hx with rfl | hx
        · refine natC_po.trans _ _ _ h3 ?_
          have := natC_po.anti (id j) (id x)
          omega
        · exact h4 x hx

theorem firstF_nil (id : Nat → Bs) : firstF id [] = none := rfl
theorem firstF_some (id : Nat → Bs) {l : List Nat} (h : l ≠ []) : ∃ m, firstF id l = some m ∧ m ∈ l ∧ ∀ x ∈ l, natC (id m) (id x) ≤ 0 := by
  cases l with
  | nil => exact absurd rfl h
  | cons i l =>
    obtain ⟨m, h1, h2, h3, h4⟩ := bestF_some id l i
    refine ⟨m, h1, ?_, ?_⟩
    · rcases h2 with rfl | h2
      · simp
      · simp [h2]
    · intro x hx
      rcases List.mem_cons.1 hx with rfl | hx
      · exact h3
      · exact h4 x hx
theorem firstF_mem {id : Nat → Bs} {l : List Nat} {m : Nat} (h : firstF id l = some m) : m ∈ l ∧ ∀ x ∈ l, natC (id m) (id x) ≤ 0 := by
  have hne : l ≠ [] := by rintro rfl; cases h
  obtain ⟨m', h1, h2, h3⟩ := firstF_some id hne
  rw [h1] at h
  injection h with h
  subst h
  exact ⟨h2, h3⟩
/-- of lists with the same elements, whose names differ, the same element is first -/
theorem firstF_alike {id : Nat → Bs} {l l' : List Nat} (h : ∀ x, x ∈ l ↔ x ∈ l') (hinj : ∀ x ∈ l, ∀ y ∈ l, id x = id y → x = y) : firstF id l = firstF id l' := by
  by_cases h0 : l = []
  · subst h0
    have : l' = [] := List.eq_nil_iff_forall_not_mem.2 fun x hx => by have := (h x).2 hx; cases this
    rw [this]
  · have h0' : l' ≠ [] := by
      rintro rfl
      exact h0 (List.eq_nil_iff_forall_not_mem.2 fun x hx => by have := (h x).1 hx; cases this)
    obtain ⟨m, h1, h2, h3⟩ := firstF_some id h0
    obtain ⟨m', h1', h2', h3'⟩ := firstF_some id h0'
    rw [h1, h1']
    have a1 := h3 m' ((h m').2 h2')
    have a2 := h3' m ((h m).1 h2)
    have a3 := natC_po.anti (id m) (id m')
    rw [hinj m h2 m' ((h m').2 h2') (natC_eq (by omega))]

/-- the nodes that are not listed and whose needs are listed -/
def freeG (G : Gr) (out : List Nat) : List Nat := (List.range G.length).filter fun k => !decide (k ∈ out) && (ab G k).all fun m => decide (m ∈ out)
def ordTo (G : Gr) : Nat → List Nat → List Nat
  | 0, out => out
  | f + 1, out => match firstF (idA G) (freeG G out) with
    | none => out
    | some i => ordTo G f (out ++ [i])
/-- the nodes in topological order, as far as there is one -/
def ordG (G : Gr) : List Nat := ordTo G G.length []

theorem mem_freeG {G : Gr} {out : List Nat} {k : Nat} : k ∈ freeG G out ↔ k < G.length ∧ k ∉ out ∧ ∀ m ∈ ab G k, m ∈ out := by
  unfold freeG
  simp [List.mem_filter]

/-- a list of nodes as the order comes by it -/
structure Listed (G : Gr) (out : List Nat) : Prop where
  nodup : out.Nodup
  lt : ∀ k ∈ out, k < G.length
  closed : ∀ k ∈ out, ∀ m ∈ ab G k, m ∈ out

theorem nodup_le {α : Type} [BEq α] [LawfulBEq α] : ∀ (l S : List α), S.Nodup → (∀ q ∈ S, q ∈ l) → S.length ≤ l.length := by
  intro l
  induction l with
  | nil =>
    intro S _ h
    cases S with
    | nil => simp
    | cons q S => exact absurd (h q (by simp)) (by simp)
  | cons a l ih =>
    intro S hn h
    by_cases ha : a ∈ S
    · have h1 : (S.erase a).length ≤ l.length := ih (S.erase a) (hn.erase a) (by
        intro q hq
        have hqS := List.mem_of_mem_erase hq
        rcases List.mem_cons.1 (h q hqS) with rfl | hql
        · exact absurd hq (fun hq => (List.Nodup.mem_erase_iff hn).1 hq |>.1 rfl)
        · exact hql)
      have h2 := List.length_erase_of_mem ha
      simp; omega
    · have := ih S hn (by
        intro q hq
        rcases List.mem_cons.1 (h q hq) with rfl | hql
        · exact (ha hq).elim
        · exact hql)
      simp; omega

theorem Listed.nil (G : Gr) : Listed G [] := ⟨List.nodup_nil, by simp, by simp⟩
theorem Listed.len {G : Gr} {out : List Nat} (h : Listed G out) : out.length ≤ G.length := by
  have := nodup_le (List.range G.length) out h.nodup (fun k hk => List.mem_range.2 (h.lt k hk))
  simpa using this
theorem Listed.add {G : Gr} {out : List Nat} {i : Nat} (h : Listed G out) (hi : i ∈ freeG G out) : Listed G (out ++ [i]) := by
  obtain ⟨h1, h2, h3⟩ := mem_freeG.1 hi
  refine ⟨?_, ?_, ?_⟩
  · rw [List.nodup_append]
    exact ⟨h.nodup, by simp, fun a ha b hb => by simp at hb; subst hb; rintro rfl; exact h2 ha⟩
  · intro k hk
    rcases List.mem_append.1 hk with hk | hk
    · exact h.lt k hk
    · simp at hk; subst hk; exact h1
  · intro k hk m hm
    rcases List.mem_append.1 hk with hk | hk
    · exact List.mem_append_left _ (h.closed k hk m hm)
    · simp at hk; subst hk; exact List.mem_append_left _ (h3 m hm)
/-- all nodes listed: none is free -/
theorem freeG_full {G : Gr} {out : List Nat} (h : Listed G out) (hl : G.length ≤ out.length) : freeG G out = [] := by
  refine List.eq_nil_iff_forall_not_mem.2 fun k hk => ?_
  have h1 := h.add hk
  have := h1.len
  simp at this
  omega

theorem ordTo_step {G : Gr} {out : List Nat} (h : Listed G out) {i : Nat} (hi : firstF (idA G) (freeG G out) = some i) : ordTo G (G.length - out.length) out = ordTo G (G.length - (out ++ [i]).length) (out ++ [i]) := by
  have hlt : out.length < G.length := by
    have := (h.add (firstF_mem hi).1).len
    simp at this
    omega
  obtain ⟨f, hf⟩ : ∃ f, G.length - out.length = f + 1 := ⟨G.length - out.length - 1, by omega⟩
  rw [hf, ordTo, hi]
  simp only [List.length_append, List.length_cons, List.length_nil]
  congr 1
  omega
theorem ordTo_end {G : Gr} {out : List Nat} (h : freeG G out = []) (f : Nat) : ordTo G f out = out := by
  cases f with
  | zero => rfl
  | succ f => rw [ordTo, h]; rfl
theorem ordTo_listed {G : Gr} : ∀ (f : Nat) (out : List Nat), Listed G out → Listed G (ordTo G f out)
  | 0, out, h => h
  | f + 1, out, h => by
    rw [ordTo]
    split
    · exact h
    · rename_i i hi
      exact ordTo_listed f _ (h.add (firstF_mem hi).1)
theorem ordG_listed (G : Gr) : Listed G (ordG G) := ordTo_listed _ _ (Listed.nil G)

/-- how many needs of a node are not listed -/
def leftG (G : Gr) (out : List Nat) (k : Nat) : Nat := ((ab G k).filter fun m => !decide (m ∈ out)).length
theorem leftG_zero {G : Gr} {out : List Nat} {k : Nat} : leftG G out k = 0 ↔ ∀ m ∈ ab G k, m ∈ out := by
  unfold leftG
  rw [List.length_eq_zero_iff, List.filter_eq_nil_iff]
  simp
theorem filter_split (l : List Nat) (hn : l.Nodup) (p p' : Nat → Bool) (i : Nat) (hp : ∀ m, p' m = (p m && !decide (m = i))) (hi : p i = true) : (l.filter p).length = (l.filter p').length + if i ∈ l then 1 else 0 := by
  induction l with
  | nil => rfl
  | cons a l ih =>
    have ih := ih hn.tail
    have ha : a ∉ l := (List.nodup_cons.1 hn).1
    have hpa := hp a
    by_cases hai : a = i
    · subst hai
      rw [if_neg ha] at ih
      rw [hi] at hpa
      simp only [decide_true, Bool.not_true, Bool.and_false] at hpa
      rw [List.filter_cons, List.filter_cons, if_pos hi, if_neg (by rw [hpa]; simp), if_pos (by simp)]
      simp only [List.length_cons]
      omega
    · have hia : ¬ i = a := fun e => hai e.symm
      simp only [hai, decide_false, Bool.not_false, Bool.and_true] at hpa
      rw [List.filter_cons, List.filter_cons, hpa]
      simp only [List.mem_cons, hia, false_or]
      by_cases hpp : p a = true
      · rw [if_pos hpp, if_pos hpp]
        simp only [List.length_cons]
        omega
      · rw [if_neg hpp, if_neg hpp]
        exact ih
theorem leftG_add {G : Gr} (hs : Sound G) {out : List Nat} {i : Nat} (hi : i ∉ out) (k : Nat) : leftG G out k = leftG G (out ++ [i]) k + if k ∈ be G i then 1 else 0 := by
  unfold leftG
  rw [filter_split _ (hs.ab_nodup k) _ (fun m => !decide (m ∈ out ++ [i])) i (fun m => by simp [List.mem_append]) (by simp [hi])]
  simp only [mem_be hs]

/-- the free nodes once a node is listed: those that were, and those of what needs it that wait for nothing else -/
theorem freeG_add {G : Gr} (hs : Sound G) {out : List Nat} (h : Listed G out) {i : Nat} (hi : i ∈ freeG G out) (k : Nat) :
    k ∈ freeG G (out ++ [i]) ↔ (k ∈ freeG G out ∧ k ≠ i) ∨ (k ∈ be G i ∧ leftG G (out ++ [i]) k = 0) := by
  obtain ⟨h1, h2, h3⟩ := mem_freeG.1 hi
  rw [mem_freeG, mem_freeG, leftG_zero, mem_be hs]
  simp only [List.mem_append, List.mem_singleton, not_or]
  constructor
  · rintro ⟨a1, ⟨a2, a3⟩, a4⟩
    by_cases hk : i ∈ ab G k
    · exact .inr ⟨hk, a4⟩
    · refine .inl ⟨⟨a1, a2, fun m hm => ?_⟩, a3⟩
      rcases a4 m hm with h5 | rfl
      · exact h5
      · exact absurd hm hk
  · rintro (⟨⟨a1, a2, a3⟩, a4⟩ | ⟨a1, a2⟩)
    · exact ⟨a1, ⟨a2, a4⟩, fun m hm => .inl (a3 m hm)⟩
    · refine ⟨(hs.ab_lt a1).2, ⟨fun hk => h2 (h.closed k hk i a1), ?_⟩, a2⟩
      rintro rfl
      exact h2 (h3 k a1)
theorem free_apart {G : Gr} (hs : Sound G) {out : List Nat} {i k : Nat} (hi : i ∈ freeG G out) (hk : k ∈ freeG G out) (hb : k ∈ be G i) : False := by
  rw [mem_be hs] at hb
  exact (mem_freeG.1 hi).2.1 ((mem_freeG.1 hk).2.2 i hb)
end Go.Proofs.YtfegmmafcopbpaaGreatDoor
/- Distances in a graph by layers, in plain words: what package graph computes, and that it is the least number of steps; no program in sight. -/
namespace Go.Proofs.YtfegmmafcopbpaaGreatDoor

/-- a state of the search: what each node holds, and the new ones -/
abbrev DS := (Nat → Nat) × List Nat
def visD (step : Nat) (s : DS) (k : Nat) : DS := if s.1 k = 0 then (fun j => if j = k then step else s.1 j, s.2 ++ [k]) else s
def rowD (step : Nat) (s : DS) (ks : List Nat) : DS := ks.foldl (visD step) s
def layD (next : Nat → List Nat) (step : Nat) (s : DS) (todo : List Nat) : DS := todo.foldl (fun s i => rowD step s (next i)) s
def distTo (next : Nat → List Nat) : Nat → Nat → (Nat → Nat) → List Nat → Nat → Nat
  | 0, _, o, _ => o
  | f + 1, step, o, todo => if todo = [] then o else distTo next f (step + 1) (layD next step (o, []) todo).1 (layD next step (o, []) todo).2
/-- how many steps lead from a node to each of n nodes, at least one; 0 if none do -/
def distF (next : Nat → List Nat) (n start : Nat) : Nat → Nat := distTo next (n + 1) 1 (fun _ => 0) [start]

def zeros (n : Nat) (o : Nat → Nat) : Nat := ((List.range n).filter fun k => decide (o k = 0)).length
theorem zeros_le (n : Nat) (o : Nat → Nat) : zeros n o ≤ n := by
  unfold zeros
  have := List.length_filter_le (fun k => decide (o k = 0)) (List.range n)
  simpa using this
theorem zeros_set {n : Nat} {o : Nat → Nat} {k step : Nat} (hk : k < n) (h0 : o k = 0) (hs : 0 < step) : zeros n (fun j => if j = k then step else o j) + 1 = zeros n o := by
  unfold zeros
  have key : ∀ l : List Nat, l.Nodup → (l.filter fun j => decide (o j = 0)).length = (l.filter fun j => decide ((if j = k then step else o j) = 0)).length + if k ∈ l then 1 else 0 := by
    intro l hl
    induction l with
    | nil => rfl
    | cons a l ih =>
      have ih := ih hl.tail
      have ha : a ∉ l := (List.nodup_cons.1 hl).1
      by_cases e : a = k
      · subst e
        rw [if_neg ha] at ih
        have h1 : ¬ step = 0 := by omega
        simp only [List.filter_cons, h0, decide_true, if_true, List.length_cons, h1, decide_false, Bool.false_eq_true, if_false, List.mem_cons, true_or]
        omega
      · have e' : ¬ k = a := fun h => e h.symm
        simp only [List.filter_cons, e, if_false, List.mem_cons, e', false_or]
        by_cases h2 : o a = 0
        · simp only [h2, decide_true, if_true, List.length_cons]
          omega
        · simp only [h2, decide_false, Bool.false_eq_true, if_false]
          omega
  have := key (List.range n) List.nodup_range
  rw [if_pos (List.mem_range.2 hk)] at this
  exact this.symm

theorem visD_zeros {n step : Nat} (hs : 0 < step) {s : DS} {k : Nat} (hk : k < n) : zeros n (visD step s k).1 + (visD step s k).2.length = zeros n s.1 + s.2.length := by
  unfold visD
  split
  · rename_i h
    have := zeros_set (n := n) (o := s.1) hk h hs
    simp only [List.length_append, List.length_cons, List.length_nil]
    omega
  · rfl
theorem rowD_zeros {n step : Nat} (hs : 0 < step) : ∀ (ks : List Nat) (s : DS), (∀ k ∈ ks, k < n) → zeros n (rowD step s ks).1 + (rowD step s ks).2.length = zeros n s.1 + s.2.length
  | [], _, _ => rfl
  | k :: ks, s, h => by
    have := rowD_zeros hs ks (visD step s k) (fun x hx => h x (by simp [hx]))
    show zeros n (rowD step (visD step s k) ks).1 + (rowD step (visD step s k) ks).2.length = _
    rw [this, visD_zeros hs (h k (by simp))]
theorem layD_zeros {next : Nat → List Nat} {n step : Nat} (hn : ∀ i, ∀ k ∈ next i, k < n) (hs : 0 < step) : ∀ (todo : List Nat) (s : DS), zeros n (layD next step s todo).1 + (layD next step s todo).2.length = zeros n s.1 + s.2.length
  | [], _ => rfl
  | i :: todo, s => by
    have := layD_zeros hn hs todo (rowD step s (next i))
    show zeros n (layD next step (rowD step s (next i)) todo).1 + (layD next step (rowD step s (next i)) todo).2.length = _
    rw [this, rowD_zeros hs _ _ (hn i)]

theorem visD_lt {n step : Nat} {s : DS} {k : Nat} (hk : k < n) (h : ∀ x ∈ s.2, x < n) : ∀ x ∈ (visD step s k).2, x < n := by
  unfold visD
  split
  · intro x hx
    rcases List.mem_append.1 hx with hx | hx
    · exact h x hx
    · simp at hx; subst hx; exact hk
  · exact h
theorem rowD_lt {n step : Nat} : ∀ (ks : List Nat) (s : DS), (∀ k ∈ ks, k < n) → (∀ x ∈ s.2, x < n) → ∀ x ∈ (rowD step s ks).2, x < n
  | [], s, _, h => h
  | k :: ks, s, hk, h => rowD_lt ks (visD step s k) (fun x hx => hk x (by simp [hx])) (visD_lt (hk k (by simp)) h)
theorem layD_lt {next : Nat → List Nat} {n step : Nat} (hn : ∀ i, ∀ k ∈ next i, k < n) : ∀ (todo : List Nat) (s : DS), (∀ x ∈ s.2, x < n) → ∀ x ∈ (layD next step s todo).2, x < n
  | [], _, h => h
  | i :: todo, s, h => layD_lt hn todo (rowD step s (next i)) (rowD_lt _ _ (hn i) h)

/-- a walk of d steps -/
inductive Walk (next : Nat → List Nat) (start : Nat) : Nat → Nat → Prop where
  | here : Walk next start 0 start
  | step {d i k : Nat} : Walk next start d i → k ∈ next i → Walk next start (d + 1) k

theorem Walk.succ {next : Nat → List Nat} {a d k : Nat} (h : Walk next a (d + 1) k) : ∃ i, Walk next a d i ∧ k ∈ next i := by
  cases h with
  | step h1 h2 => exact ⟨_, h1, h2⟩
theorem Walk.zero {next : Nat → List Nat} {a k : Nat} (h : Walk next a 0 k) : k = a := by cases h; rfl

/-- o holds the least number of steps to each node, where there are less than `step` -/
structure Lay (next : Nat → List Nat) (a step : Nat) (o : Nat → Nat) : Prop where
  good : ∀ k, o k ≠ 0 → o k < step ∧ Walk next a (o k) k ∧ ∀ d, 1 ≤ d → Walk next a d k → o k ≤ d
  all : ∀ k d, 1 ≤ d → d < step → Walk next a d k → o k ≠ 0
/-- the nodes that step - 1 steps lead to, and no fewer do -/
def Edge (next : Nat → List Nat) (a step : Nat) (todo : List Nat) : Prop := ∀ k, k ∈ todo ↔ Walk next a (step - 1) k ∧ ∀ d, 1 ≤ d → d < step - 1 → ¬ Walk next a d k

theorem visD_spec (step : Nat) (o : Nat → Nat) (A : Nat → Prop) (s : DS) (h1 : ∀ k, s.1 k = if o k ≠ 0 then o k else s.1 k) (h2 : ∀ k, o k = 0 → (s.1 k = step ∧ A k) ∨ (s.1 k = 0 ∧ ¬ A k)) (h3 : ∀ k, k ∈ s.2 ↔ o k = 0 ∧ A k) (x : Nat) :
    (∀ k, (visD step s x).1 k = if o k ≠ 0 then o k else (visD step s x).1 k) ∧ (∀ k, o k = 0 → ((visD step s x).1 k = step ∧ (A k ∨ k = x)) ∨ ((visD step s x).1 k = 0 ∧ ¬ (A k ∨ k = x))) ∧ (∀ k, k ∈ (visD step s x).2 ↔ o k = 0 ∧ (A k ∨ k = x)) := by
  unfold visD
  by_cases hx : s.1 x = 0
  · rw [if_pos hx]
    have hox : o x = 0 := by
      have := h1 x
      by_cases h0 : o x = 0
      · exact h0
      · rw [if_pos h0, hx] at this
        exact absurd this.symm h0
    refine ⟨fun k => ?_, fun k hk => ?_, fun k => ?_⟩
    · show (if k = x then step else s.1 k) = if o k ≠ 0 then o k else if k = x then step else s.1 k
      by_cases hk : k = x
      · subst hk
        rw [if_pos rfl, if_neg (by simp [hox])]
      · rw [if_neg hk]
        exact h1 k
    · show ((if k = x then step else s.1 k) = step ∧ _) ∨ ((if k = x then step else s.1 k) = 0 ∧ _)
      by_cases hkx : k = x
      · subst hkx
        exact .inl ⟨by rw [if_pos rfl], .inr rfl⟩
      · rw [if_neg hkx]
        rcases h2 k hk with ⟨a1, a2⟩ | ⟨a1, a2⟩
        · exact .inl ⟨a1, .inl a2⟩
        · exact .inr ⟨a1, fun h => h.elim a2 hkx⟩
    · show k ∈ s.2 ++ [x] ↔ _
      rw [List.mem_append, h3, List.mem_singleton]
      constructor
      · rintro (⟨a1, a2⟩ | rfl)
        · exact ⟨a1, .inl a2⟩
        · exact ⟨hox, .inr rfl⟩
      · rintro ⟨a1, a2 | a2⟩
        · exact .inl ⟨a1, a2⟩
        · exact .inr a2
  · rw [if_neg hx]
    have hxA : o x = 0 → A x := by
      intro h0
      rcases h2 x h0 with ⟨_, a2⟩ | ⟨a1, _⟩
      · exact a2
      · exact absurd a1 hx
    refine ⟨h1, fun k hk => ?_, fun k => ?_⟩
    · rcases h2 k hk with ⟨a1, a2⟩ | ⟨a1, a2⟩
      · exact .inl ⟨a1, .inl a2⟩
      · refine .inr ⟨a1, fun h => h.elim a2 ?_⟩
        rintro rfl
        exact a2 (hxA hk)
    · rw [h3]
      constructor
      · rintro ⟨a1, a2⟩
        exact ⟨a1, .inl a2⟩
      · rintro ⟨a1, a2 | rfl⟩
        · exact ⟨a1, a2⟩
        · exact ⟨a1, hxA a1⟩

def DInv (step : Nat) (o : Nat → Nat) (A : Nat → Prop) (s : DS) : Prop := (∀ k, s.1 k = if o k ≠ 0 then o k else s.1 k) ∧ (∀ k, o k = 0 → (s.1 k = step ∧ A k) ∨ (s.1 k = 0 ∧ ¬ A k)) ∧ (∀ k, k ∈ s.2 ↔ o k = 0 ∧ A k)
theorem DInv.congr {step : Nat} {o : Nat → Nat} {A B : Nat → Prop} {s : DS} (h : DInv step o A s) (e : ∀ k, A k ↔ B k) : DInv step o B s := by
  have : A = B := funext fun k => propext (e k)
  exact this ▸ h
theorem rowD_spec (step : Nat) (o : Nat → Nat) : ∀ (ks : List Nat) (A : Nat → Prop) (s : DS), DInv step o A s → DInv step o (fun k => A k ∨ k ∈ ks) (rowD step s ks)
  | [], A, s, h => h.congr (by simp)
  | x :: ks, A, s, h => by
    have := rowD_spec step o ks _ _ (visD_spec step o A s h.1 h.2.1 h.2.2 x)
    exact this.congr fun k => by simp [or_assoc]
theorem layD_spec (next : Nat → List Nat) (step : Nat) (o : Nat → Nat) : ∀ (todo : List Nat) (A : Nat → Prop) (s : DS), DInv step o A s → DInv step o (fun k => A k ∨ ∃ i ∈ todo, k ∈ next i) (layD next step s todo)
  | [], A, s, h => h.congr (by simp)
  | x :: ks, A, s, h => by
    have := layD_spec next step o ks _ _ (rowD_spec step o (next x) A s h)
    exact this.congr fun k => by simp [or_assoc]
theorem layD_new (next : Nat → List Nat) (step : Nat) (o : Nat → Nat) (todo : List Nat) : DInv step o (fun k => ∃ i ∈ todo, k ∈ next i) (layD next step (o, []) todo) := by
  have h0 : DInv step o (fun _ => False) (o, []) := ⟨fun k => by simp, fun k h => .inr ⟨h, id⟩, fun k => by simp⟩
  exact (layD_spec next step o todo _ _ h0).congr (by simp)

theorem lay_step {next : Nat → List Nat} {a step : Nat} (hs : 0 < step) {o : Nat → Nat} {todo : List Nat} (h : Lay next a step o) (he : Edge next a step todo) :
    Lay next a (step + 1) (layD next step (o, []) todo).1 ∧ Edge next a (step + 1) (layD next step (o, []) todo).2 := by
  obtain ⟨h1, h2, h3⟩ := layD_new next step o todo
  have hreach : ∀ k, o k = 0 → Walk next a step k → ∃ i ∈ todo, k ∈ next i := by
    intro k hk hw
    obtain ⟨t, rfl⟩ : ∃ t, step = t + 1 := ⟨step - 1, by omega⟩
    obtain ⟨i, hi, hki⟩ := hw.succ
    refine ⟨i, (he i).2 ⟨hi, fun d hd1 hd2 hwd => ?_⟩, hki⟩
    exact absurd hk (h.all k (d + 1) (by omega) (by simp at hd2; omega) (.step hwd hki))
  have hback : ∀ k, (∃ i ∈ todo, k ∈ next i) → Walk next a step k := by
    rintro k ⟨i, hi, hki⟩
    have := Walk.step ((he i).1 hi).1 hki
    rwa [show step - 1 + 1 = step by omega] at this
  refine ⟨⟨?_, ?_⟩, ?_⟩
  · intro k hk
    by_cases h0 : o k = 0
    · rcases h2 k h0 with ⟨a1, a2⟩ | ⟨a1, _⟩
      · rw [a1]
        refine ⟨by omega, hback k a2, fun d hd1 hwd => ?_⟩
        by_cases hds : d < step
        · exact absurd h0 (h.all k d hd1 hds hwd)
        · omega
      · exact absurd a1 hk
    · have := h1 k
      rw [if_pos h0] at this
      rw [this]
      obtain ⟨b1, b2, b3⟩ := h.good k h0
      exact ⟨by omega, b2, b3⟩
  · intro k d hd1 hd2 hwd
    by_cases h0 : o k = 0
    · rcases h2 k h0 with ⟨a1, a2⟩ | ⟨a1, a2⟩
      · omega
      · exfalso
        by_cases hds : d < step
        · exact h.all k d hd1 hds hwd h0
        · obtain rfl : d = step := by omega
          exact a2 (hreach k h0 hwd)
    · have := h1 k
      rw [if_pos h0] at this
      rw [this]
      exact h0
  · intro k
    rw [h3, Nat.add_sub_cancel]
    constructor
    · rintro ⟨h0, h4⟩
      exact ⟨hback k h4, fun d hd1 hd2 hwd => h.all k d hd1 hd2 hwd h0⟩
    · rintro ⟨hw, hno⟩
      by_cases h0 : o k = 0
      · exact ⟨h0, hreach k h0 hw⟩
      · obtain ⟨b1, b2, _⟩ := h.good k h0
        exact absurd b2 (hno _ (by omega) b1)

theorem lay_end {next : Nat → List Nat} {a step : Nat} (he : Edge next a step []) : ∀ k d, 1 ≤ d → Walk next a d k → ∃ d', 1 ≤ d' ∧ d' < step ∧ Walk next a d' k := by
  intro k d
  induction d generalizing k with
  | zero => omega
  | succ d ih =>
    intro _ hw
    by_cases hds : d + 1 < step
    · exact ⟨d + 1, by omega, hds, hw⟩
    · obtain ⟨i, hi, hki⟩ := hw.succ
      have hno : ∀ i, ¬ (Walk next a (step - 1) i ∧ ∀ d, 1 ≤ d → d < step - 1 → ¬ Walk next a d i) := fun i hh => by have := (he i).2 hh; cases this
      have hcut : ∀ j, Walk next a (step - 1) j → ∃ e, 1 ≤ e ∧ e < step - 1 ∧ Walk next a e j := by
        intro j hj
        apply Classical.byContradiction
        intro hc
        exact hno j ⟨hj, fun e h1 h2 h3 => hc ⟨e, h1, h2, h3⟩⟩
      by_cases hd0 : d = 0
      · subst hd0
        obtain ⟨e, h1, h2, _⟩ := hcut i (by rwa [show step - 1 = 0 by omega])
        omega
      · obtain ⟨e, h1, h2, h3⟩ := ih i (by omega) hi
        by_cases he1 : e + 1 < step
        · exact ⟨e + 1, by omega, he1, .step h3 hki⟩
        · obtain ⟨e', h4, h5, h6⟩ := hcut i (by rwa [show step - 1 = e by omega])
          exact ⟨e' + 1, by omega, by omega, .step h6 hki⟩

/-- o holds the least number of steps to each node, or 0 -/
def IsDist (next : Nat → List Nat) (a : Nat) (o : Nat → Nat) : Prop := ∀ k, (o k = 0 ∧ ∀ d, 1 ≤ d → ¬ Walk next a d k) ∨ (1 ≤ o k ∧ Walk next a (o k) k ∧ ∀ d, 1 ≤ d → Walk next a d k → o k ≤ d)

theorem distTo_is {next : Nat → List Nat} {n a : Nat} (hn : ∀ i, ∀ k ∈ next i, k < n) : ∀ (f step : Nat) (o : Nat → Nat) (todo : List Nat), 0 < step → Lay next a step o → Edge next a step todo → (todo = [] ∨ zeros n o + 1 ≤ f) → IsDist next a (distTo next f step o todo) := by
  have fin : ∀ (step : Nat) (o : Nat → Nat), 0 < step → Lay next a step o → Edge next a step [] → IsDist next a o := by
    intro step o hs h he k
    by_cases h0 : o k = 0
    · refine .inl ⟨h0, fun d hd hw => ?_⟩
      obtain ⟨d', h1, h2, h3⟩ := lay_end he k d hd hw
      exact h.all k d' h1 h2 h3 h0
    · exact .inr ⟨by omega, (h.good k h0).2.1, (h.good k h0).2.2⟩
  intro f
  induction f with
  | zero =>
    intro step o todo hs h he hf
    rcases hf with rfl | hf
    · exact fin step o hs h he
    · omega
  | succ f ih =>
    intro step o todo hs h he hf
    rw [distTo]
    split
    · rename_i h0
      subst h0
      exact fin step o hs h he
    · rename_i h0
      have hf : zeros n o + 1 ≤ f + 1 := by
        rcases hf with h1 | h1
        · exact absurd h1 h0
        · exact h1
      obtain ⟨h1, h2⟩ := lay_step hs h he
      refine ih _ _ _ (by omega) h1 h2 ?_
      have hz := layD_zeros hn hs todo (o, [])
      simp only [List.length_nil, Nat.add_zero] at hz
      by_cases h3 : (layD next step (o, []) todo).2 = []
      · exact .inl h3
      · have := List.length_pos_iff.2 h3
        exact .inr (by omega)

theorem distF_is {next : Nat → List Nat} {n : Nat} (hn : ∀ i, ∀ k ∈ next i, k < n) (a : Nat) : IsDist next a (distF next n a) := by
  refine distTo_is hn _ _ _ _ (by omega) ⟨fun k h => absurd rfl h, fun k d h1 h2 => by omega⟩ ?_ (.inr ?_)
  · intro k
    simp only [List.mem_singleton, Nat.sub_self]
    constructor
    · rintro rfl
      exact ⟨.here, fun d h1 h2 => by omega⟩
    · rintro ⟨h, _⟩
      exact h.zero
  · have := zeros_le n (fun _ => 0)
    omega
theorem IsDist.uniq {next : Nat → List Nat} {a : Nat} {o o' : Nat → Nat} (h : IsDist next a o) (h' : IsDist next a o') (k : Nat) : o k = o' k := by
  rcases h k with ⟨h1, h2⟩ | ⟨h1, h2, h3⟩ <;> rcases h' k with ⟨h1', h2'⟩ | ⟨h1', h2', h3'⟩
  · omega
  · exact absurd h2' (h2 _ h1')
  · exact absurd h2 (h2' _ h1)
  · have := h3 _ h1' h2'
    have := h3' _ h1 h2
    omega
end Go.Proofs.YtfegmmafcopbpaaGreatDoor
/- What a list of names leads to, by a list that grows while it is read; walks turned around; no program in sight. -/
namespace Go.Proofs.YtfegmmafcopbpaaGreatDoor

def addN {α : Type} [BEq α] (l ms : List α) : List α := ms.foldl (fun l x => if l.contains x then l else l ++ [x]) l
def cloTo {α : Type} [BEq α] (next : α → List α) : Nat → Nat → List α → List α
  | 0, _, l => l
  | f + 1, i, l => match l[i]? with
    | none => l
    | some x => cloTo next f (i + 1) (addN l (next x))

theorem addN_nil {α : Type} [BEq α] (l : List α) : addN l [] = l := rfl
theorem addN_cons {α : Type} [BEq α] (l : List α) (x : α) (ms : List α) : addN l (x :: ms) = addN (if l.contains x then l else l ++ [x]) ms := rfl
theorem addN_app {α : Type} [BEq α] [LawfulBEq α] : ∀ (ms : List α) (l : List α), ∃ r, addN l ms = l ++ r ∧ (∀ x, x ∈ addN l ms ↔ x ∈ l ∨ x ∈ ms) ∧ (l.Nodup → (addN l ms).Nodup)
  | [], l => ⟨[], by simp [addN_nil], by simp [addN_nil], fun h => h⟩
  | x :: ms, l => by
    rw [addN_cons]
    by_cases h : l.contains x = true
    · rw [if_pos h]
      obtain ⟨r, h1, h2, h3⟩ := addN_app ms l
      refine ⟨r, h1, fun y => ?_, h3⟩
      rw [h2, List.mem_cons]
      constructor
      · rintro (a | a)
        · exact .inl a
        · exact .inr (.inr a)
      · rintro (a | rfl | a)
        · exact .inl a
        · exact .inl (List.contains_iff_mem.1 h)
        · exact .inr a
    · rw [if_neg h]
      have hx : x ∉ l := fun hm => h (List.contains_iff_mem.2 hm)
      obtain ⟨r, h1, h2, h3⟩ := addN_app ms (l ++ [x])
      refine ⟨x :: r, by rw [h1]; simp, fun y => ?_, fun hn => h3 ?_⟩
      · rw [h2, List.mem_append, List.mem_singleton, List.mem_cons, or_assoc]
      · rw [List.nodup_append]
        exact ⟨hn, by simp, fun a ha b hb => by simp at hb; subst hb; rintro rfl; exact hx ha⟩

/-- from an element of l0 on, steps lead to it -/
inductive From {α : Type} (next : α → List α) (l0 : List α) : α → Prop where
  | base {x : α} : x ∈ l0 → From next l0 x
  | step {x y : α} : From next l0 x → y ∈ next x → From next l0 y

theorem cloTo_step {α : Type} [BEq α] {next : α → List α} {N i : Nat} {l : List α} (hl : l.length ≤ N) {x : α} (hx : l[i]? = some x) : cloTo next (N - i) i l = cloTo next (N - (i + 1)) (i + 1) (addN l (next x)) := by
  have hi : i < l.length := (List.getElem?_eq_some_iff.1 hx).1
  obtain ⟨f, hf⟩ : ∃ f, N - i = f + 1 := ⟨N - i - 1, by omega⟩
  have hf' : N - (i + 1) = f := by omega
  rw [hf, hf', cloTo, hx]
theorem cloTo_end {α : Type} [BEq α] {next : α → List α} {f i : Nat} {l : List α} (h : l.length ≤ i) : cloTo next f i l = l := by
  cases f with
  | zero => rfl
  | succ f => rw [cloTo, List.getElem?_eq_none h]

theorem cloTo_spec {α : Type} [BEq α] [LawfulBEq α] {next : α → List α} {U l0 : List α} (hU : ∀ x, ∀ y ∈ next x, y ∈ U) : ∀ (f i : Nat) (l : List α), U.length - i ≤ f → l.Nodup → (∀ x ∈ l, x ∈ U) → (∀ x ∈ l0, x ∈ l) → (∀ x ∈ l, From next l0 x) → (∀ j, j < i → ∀ x, l[j]? = some x → ∀ y ∈ next x, y ∈ l) →
    ∀ x, x ∈ cloTo next f i l ↔ From next l0 x := by
  intro f
  induction f with
  | zero =>
    intro i l hf hn hu h0 hfrom hcl x
    have hlen := nodup_le U l hn hu
    refine ⟨fun h => hfrom x h, fun h => ?_⟩
    show x ∈ l
    induction h with
    | base h => exact h0 _ h
    | step _ hy ih =>
      obtain ⟨j, hj⟩ := List.getElem?_of_mem ih
      have := (List.getElem?_eq_some_iff.1 hj).1
      exact hcl j (by omega) _ hj _ hy
  | succ f ih =>
    intro i l hf hn hu h0 hfrom hcl x
    rw [cloTo]
    cases hx : l[i]? with
    | none =>
      have hlen := List.getElem?_eq_none_iff.1 hx
      refine ⟨fun h => hfrom x h, fun h => ?_⟩
      show x ∈ l
      induction h with
      | base h => exact h0 _ h
      | step _ hy ih =>
        obtain ⟨j, hj⟩ := List.getElem?_of_mem ih
        have := (List.getElem?_eq_some_iff.1 hj).1
        exact hcl j (by omega) _ hj _ hy
    | some a =>
      obtain ⟨r, h1, h2, h3⟩ := addN_app (next a) l
      refine ih (i + 1) _ (by omega) (h3 hn) ?_ ?_ ?_ ?_ x
      · intro y hy
        rcases (h2 y).1 hy with hy | hy
        · exact hu y hy
        · exact hU a y hy
      · exact fun y hy => (h2 y).2 (.inl (h0 y hy))
      · intro y hy
        rcases (h2 y).1 hy with hy | hy
        · exact hfrom y hy
        · exact .step (hfrom a (List.mem_of_getElem? hx)) hy
      · intro j hj y hy z hz
        rw [h2]
        have hil : i < l.length := (List.getElem?_eq_some_iff.1 hx).1
        rw [h1, List.getElem?_append_left (by omega)] at hy
        by_cases hji : j = i
        · subst hji
          rw [hx] at hy
          injection hy with hy
          subst hy
          exact .inr hz
        · exact .inl (hcl j (by omega) y hy z hz)

/-- the names that a name leads to, as the reference lists them -/
def nextB (G : Gr) (b : Bs) : List Bs := needA G (posG G b)
def aboveR (G : Gr) (b : Bs) : List Bs := cloTo (nextB G) G.length 0 (nextB G b)

theorem aboveR_spec {G : Gr} (hs : Sound G) (b x : Bs) : x ∈ aboveR G b ↔ From (nextB G) (nextB G b) x :=
  cloTo_spec (U := idsG G) (fun y z hz => hs.need hz) _ 0 _ (by rw [ids_len]; omega) (needA_nodup hs _) (fun y hy => hs.need hy) (fun y hy => hy) (fun y hy => .base hy) (fun j hj => absurd hj (Nat.not_lt_zero j)) x

theorem ab_of_need {G : Gr} {i : Nat} {y : Bs} (h : y ∈ needA G i) : posG G y ∈ ab G i := List.mem_map.2 ⟨y, h, rfl⟩
theorem need_of_ab {G : Gr} (hs : Sound G) {i k : Nat} (h : k ∈ ab G i) : idA G k ∈ needA G i := by
  obtain ⟨y, hy, rfl⟩ := List.mem_map.1 h
  rw [idA_pos (hs.need hy)]
  exact hy

theorem from_walk {G : Gr} (hs : Sound G) {b x : Bs} (h : From (nextB G) (nextB G b) x) : x ∈ idsG G ∧ ∃ d, 1 ≤ d ∧ Walk (ab G) (posG G b) d (posG G x) := by
  induction h with
  | base h => exact ⟨hs.need h, 1, Nat.le_refl _, .step .here (ab_of_need h)⟩
  | step _ hy ih =>
    obtain ⟨_, d, hd, hw⟩ := ih
    exact ⟨hs.need hy, d + 1, by omega, .step hw (ab_of_need hy)⟩
theorem walk_from {G : Gr} (hs : Sound G) {b : Bs} : ∀ (d k : Nat), 1 ≤ d → Walk (ab G) (posG G b) d k → From (nextB G) (nextB G b) (idA G k)
  | 0, k, h, _ => by omega
  | d + 1, k, _, hw => by
    obtain ⟨i, hi, hk⟩ := hw.succ
    by_cases h0 : d = 0
    · subst h0
      have := hi.zero
      subst this
      exact .base (need_of_ab hs hk)
    · have ih := walk_from hs d i (by omega) hi
      refine .step ih ?_
      have : posG G (idA G i) = i := posG_id hs.nodup (hs.ab_lt hk).2
      unfold nextB
      rw [this]
      exact need_of_ab hs hk
theorem mem_aboveR {G : Gr} (hs : Sound G) {b x : Bs} : x ∈ aboveR G b ↔ x ∈ idsG G ∧ ∃ d, 1 ≤ d ∧ Walk (ab G) (posG G b) d (posG G x) := by
  rw [aboveR_spec hs]
  constructor
  · exact from_walk hs
  · rintro ⟨hx, d, hd, hw⟩
    have := walk_from hs d _ hd hw
    rwa [idA_pos hx] at this

theorem Walk.ahead {next : Nat → List Nat} {a b d k : Nat} (h : Walk next b d k) (hb : b ∈ next a) : Walk next a (d + 1) k := by
  induction h with
  | here => exact .step .here hb
  | step _ hk ih => exact .step ih hk
theorem walk_turn {f g : Nat → List Nat} (h : ∀ i k, k ∈ f i → i ∈ g k) {a d k : Nat} (hw : Walk f a d k) : Walk g k d a := by
  induction hw with
  | here => exact .here
  | step _ hk ih => exact ih.ahead (h _ _ hk)
theorem walk_be {G : Gr} (hs : Sound G) {a d k : Nat} : Walk (be G) a d k ↔ Walk (ab G) k d a :=
  ⟨walk_turn fun _ _ h => (mem_be hs).1 h, walk_turn fun _ _ h => (mem_be hs).2 h⟩

theorem ab_in {G : Gr} (hs : Sound G) : ∀ i, ∀ k ∈ ab G i, k < G.length := fun _ _ h => (hs.ab_lt h).1
theorem be_in (G : Gr) : ∀ i, ∀ k ∈ be G i, k < G.length := fun _ _ h => be_lt h

/-- the names that package graph reaches, not sorted yet -/
def hitF (G : Gr) (next : Nat → List Nat) (a : Nat) : List Bs := ((List.range G.length).filter fun k => decide (0 < distF next G.length a k)).map (idA G)
theorem mem_hitF {G : Gr} {next : Nat → List Nat} (hn : ∀ i, ∀ k ∈ next i, k < G.length) (hnd : (idsG G).Nodup) {a : Nat} {x : Bs} : x ∈ hitF G next a ↔ x ∈ idsG G ∧ ∃ d, 1 ≤ d ∧ Walk next a d (posG G x) := by
  unfold hitF
  rw [List.mem_map]
  constructor
  · rintro ⟨k, hk, rfl⟩
    rw [List.mem_filter, List.mem_range, decide_eq_true_eq] at hk
    refine ⟨idA_mem hk.1, ?_⟩
    rw [posG_id hnd hk.1]
    rcases distF_is hn a k with ⟨h1, _⟩ | ⟨h1, h2, _⟩
    · omega
    · exact ⟨_, h1, h2⟩
  · rintro ⟨hx, d, hd, hw⟩
    refine ⟨posG G x, ?_, idA_pos hx⟩
    rw [List.mem_filter, List.mem_range, decide_eq_true_eq]
    refine ⟨posG_lt hx, ?_⟩
    rcases distF_is hn a (posG G x) with ⟨_, h2⟩ | ⟨h1, _⟩
    · exact absurd hw (h2 d hd)
    · exact h1

/-- Above: both ways the same names -/
theorem above_same {G : Gr} (hs : Sound G) (b : Bs) : sortF (hitF G (ab G) (posG G b)) = sortF (aboveR G b) := by
  obtain ⟨h1, h2⟩ := sortF_asc (hitF G (ab G) (posG G b))
  obtain ⟨h3, h4⟩ := sortF_asc (aboveR G b)
  refine asc_ext _ _ h1 h3 fun x => ?_
  rw [h2, h4, mem_hitF (ab_in hs) hs.nodup, mem_aboveR hs]
/-- the reference's Below, not sorted yet -/
def belowR (G : Gr) (b : Bs) : List Bs := (idsG G).filter fun x => (aboveR G x).contains b
theorem below_same {G : Gr} (hs : Sound G) {b : Bs} (hb : b ∈ idsG G) : sortF (hitF G (be G) (posG G b)) = sortF (belowR G b) := by
  obtain ⟨h1, h2⟩ := sortF_asc (hitF G (be G) (posG G b))
  obtain ⟨h3, h4⟩ := sortF_asc (belowR G b)
  refine asc_ext _ _ h1 h3 fun x => ?_
  rw [h2, h4, mem_hitF (be_in G) hs.nodup]
  unfold belowR
  rw [List.mem_filter, List.contains_iff_mem, mem_aboveR hs]
  simp only [walk_be hs]
  constructor
  · rintro ⟨hx, h⟩
    exact ⟨hx, hb, h⟩
  · rintro ⟨hx, _, h⟩
    exact ⟨hx, h⟩
end Go.Proofs.YtfegmmafcopbpaaGreatDoor
/- A shortest cycle, in plain words: what package graph and the reference compute; no program in sight. -/
namespace Go.Proofs.YtfegmmafcopbpaaGreatDoor

/-- the nodes that steps lead back to -/
def cycL (G : Gr) : List Nat := (List.range G.length).filter fun k => decide (0 < distF (be G) G.length k k)
def cycS (G : Gr) : Option Nat := firstF (idA G) (cycL G)
/-- from a node, its name and the names on the way, by what is one step nearer -/
def pathC (G : Gr) (D : Nat → Nat) : Nat → Nat → List Bs
  | 0, _ => []
  | m + 1, i => idA G i :: if m = 0 then [] else match firstF (idA G) ((ab G i).filter fun k => decide (D k = m)) with
    | none => []
    | some k => pathC G D m k
def cycF (G : Gr) : List Bs := match cycS G with
  | none => []
  | some s => pathC G (distF (be G) G.length s) (distF (be G) G.length s s) s

theorem mem_cycL {G : Gr} {k : Nat} : k ∈ cycL G ↔ k < G.length ∧ 0 < distF (be G) G.length k k := by
  unfold cycL
  rw [List.mem_filter, List.mem_range, decide_eq_true_eq]
theorem cyc_walk {G : Gr} (hs : Sound G) {k : Nat} : 0 < distF (be G) G.length k k ↔ ∃ d, 1 ≤ d ∧ Walk (ab G) k d k := by
  rcases distF_is (be_in G) k k with ⟨h1, h2⟩ | ⟨h1, h2, _⟩
  · constructor
    · intro h; omega
    · rintro ⟨d, hd, hw⟩
      exact absurd ((walk_be hs).2 hw) (h2 d hd)
  · exact ⟨fun _ => ⟨_, h1, (walk_be hs).1 h2⟩, fun _ => by omega⟩

/-- what is listed needs only what is listed ahead: no steps lead from it back -/
theorem listed_walk {G : Gr} {out : List Nat} (h : Listed G out) {a d k : Nat} (ha : a ∈ out) (hw : Walk (ab G) a d k) : k ∈ out := by
  induction hw with
  | here => exact ha
  | step _ hk ih => exact h.closed _ ih _ hk
/-- a list in which each node stands behind all that it needs -/
def Ahead (G : Gr) (out : List Nat) : Prop := ∀ p q k, out = p ++ k :: q → ∀ m ∈ ab G k, m ∈ p
theorem ahead_nil (G : Gr) : Ahead G [] := fun p q k h => by simp at h
theorem ahead_add {G : Gr} {out : List Nat} (h : Ahead G out) {i : Nat} (hi : ∀ m ∈ ab G i, m ∈ out) : Ahead G (out ++ [i]) := by
  intro p q k e m hm
  rcases List.eq_nil_or_concat q with rfl | ⟨q', x, rfl⟩
  · have e' : out ++ [i] = p ++ [k] := e
    obtain ⟨rfl, e2⟩ := List.append_inj' e' rfl
    injection e2 with e2
    subst e2
    exact hi m hm
  · have e' : out ++ [i] = (p ++ k :: q') ++ [x] := by rw [e]; simp
    obtain ⟨e1, _⟩ := List.append_inj' e' rfl
    exact h p q' k e1 m hm
theorem ordTo_ahead {G : Gr} : ∀ (f : Nat) (out : List Nat), Ahead G out → Ahead G (ordTo G f out)
  | 0, out, h => h
  | f + 1, out, h => by
    rw [ordTo]
    split
    · exact h
    · rename_i i hi
      exact ordTo_ahead f _ (ahead_add h (mem_freeG.1 (firstF_mem hi).1).2.2)
theorem ordG_ahead (G : Gr) : Ahead G (ordG G) := ordTo_ahead _ _ (ahead_nil G)

/-- what stands in such a list is on no cycle -/
theorem ahead_walk {G : Gr} {out : List Nat} (h : Ahead G out) {p q : List Nat} {k : Nat} (e : out = p ++ k :: q) : ∀ (d m : Nat), 1 ≤ d → Walk (ab G) k d m → m ∈ p := by
  intro d
  induction d with
  | zero => omega
  | succ d ih =>
    intro m _ hw
    obtain ⟨i, hi, hm⟩ := hw.succ
    by_cases h0 : d = 0
    · subst h0
      have := hi.zero
      subst this
      exact h p q _ e m hm
    · have hip := ih i (by omega) hi
      obtain ⟨p1, p2, rfl⟩ := List.append_of_mem hip
      have := h p1 (p2 ++ k :: q) i (by rw [e]; simp) m hm
      simp [this]
theorem listed_no_cycle {G : Gr} (hs : Sound G) {k : Nat} (hk : k ∈ ordG G) : ¬ 0 < distF (be G) G.length k k := by
  rw [cyc_walk hs]
  rintro ⟨d, hd, hw⟩
  obtain ⟨p, q, e⟩ := List.append_of_mem hk
  have h1 := ahead_walk (ordG_ahead G) e d k hd hw
  have h2 := (ordG_listed G).nodup
  rw [e, List.nodup_append] at h2
  exact h2.2.2 k h1 k (by simp) rfl

/-- one step nearer -/
theorem nearer {G : Gr} (hs : Sound G) {s i m : Nat} (hi : distF (be G) G.length s i = m + 1) (hm : m ≠ 0) : ∃ k ∈ ab G i, distF (be G) G.length s k = m := by
  have is := distF_is (be_in G) s
  rcases is i with ⟨h1, _⟩ | ⟨_, h2, h3⟩
  · omega
  · rw [hi] at h2 h3
    obtain ⟨k, hk, hik⟩ := h2.succ
    refine ⟨k, (mem_be hs).1 hik, ?_⟩
    rcases is k with ⟨_, h5⟩ | ⟨h4, h5, h6⟩
    · exact absurd hk (h5 m (by omega))
    · have a1 := h6 m (by omega) hk
      have a2 := h3 _ (by omega) (.step h5 hik)
      omega
end Go.Proofs.YtfegmmafcopbpaaGreatDoor
/- More on cycles in plain words: where the search begins, how long the way is; no program in sight. -/
namespace Go.Proofs.YtfegmmafcopbpaaGreatDoor

def restTo (G : Gr) (i : Nat) : List Nat := (List.range i).filter fun k => !decide (k ∈ ordG G)
def restL (G : Gr) : List Nat := restTo G G.length
theorem restTo_succ (G : Gr) (i : Nat) : restTo G (i + 1) = if i ∈ ordG G then restTo G i else restTo G i ++ [i] := by
  unfold restTo
  rw [List.range_succ, List.filter_append]
  by_cases h : i ∈ ordG G
  · rw [if_pos h]; simp only [List.filter_cons, h, decide_true, Bool.not_true, Bool.false_eq_true, if_false, List.filter_nil, List.append_nil]
  · rw [if_neg h]; simp only [List.filter_cons, h, decide_false, Bool.not_false, if_true, List.filter_nil]
theorem restTo_len (G : Gr) (i : Nat) : (restTo G i).length ≤ i := by
  unfold restTo
  have := List.length_filter_le (fun k => !decide (k ∈ ordG G)) (List.range i)
  rwa [List.length_range] at this
theorem restTo_lt {G : Gr} {i k : Nat} (h : k ∈ restTo G i) : k < i := by
  unfold restTo at h
  rw [List.mem_filter, List.mem_range] at h
  exact h.1
theorem cyc_rest {G : Gr} (hs : Sound G) {k : Nat} (h : k ∈ cycL G) : k ∈ restL G := by
  obtain ⟨h1, h2⟩ := mem_cycL.1 h
  unfold restL restTo
  rw [List.mem_filter, List.mem_range]
  refine ⟨h1, ?_⟩
  by_cases hk : k ∈ ordG G
  · exact absurd h2 (listed_no_cycle hs hk)
  · simp [hk]

theorem cyc_start {G : Gr} (hs : Sound G) {R p q : List Nat} {s : Nat} (hR : R.Perm (restL G)) (hso : R.Pairwise fun a b => natC (idA G a) (idA G b) ≤ 0) (e : R = p ++ s :: q) (hp : ∀ k ∈ p, distF (be G) G.length k k = 0) (h : 0 < distF (be G) G.length s s) : cycS G = some s := by
  have hsR : s ∈ restL G := hR.mem_iff.1 (by rw [e]; simp)
  have hsl : s < G.length := restTo_lt hsR
  have hsc : s ∈ cycL G := mem_cycL.2 ⟨hsl, h⟩
  obtain ⟨m, h1, h2, h3⟩ := firstF_some (idA G) (l := cycL G) (by intro h0; rw [h0] at hsc; cases hsc)
  unfold cycS
  rw [h1]
  have hmR : m ∈ R := hR.mem_iff.2 (cyc_rest hs h2)
  have hle : natC (idA G s) (idA G m) ≤ 0 := by
    rw [e] at hmR hso
    rcases List.mem_append.1 hmR with hm | hm
    · have := hp m hm
      have := (mem_cycL.1 h2).2
      omega
    · rcases List.mem_cons.1 hm with rfl | hm
      · rw [natC_po.refl]; exact Int.le_refl _
      · exact (List.pairwise_cons.1 (List.pairwise_append.1 hso).2.1).1 m hm
  have h4 := h3 s hsc
  have h5 := natC_po.anti (idA G s) (idA G m)
  rw [idA_inj hs.nodup (mem_cycL.1 h2).1 hsl (natC_eq (by omega))]
theorem cyc_none {G : Gr} (hs : Sound G) {R : List Nat} (hR : R.Perm (restL G)) (hp : ∀ k ∈ R, distF (be G) G.length k k = 0) : cycF G = [] := by
  have h0 : cycL G = [] := List.eq_nil_iff_forall_not_mem.2 fun k hk => by
    have := hp k (hR.mem_iff.2 (cyc_rest hs hk))
    have := (mem_cycL.1 hk).2
    omega
  unfold cycF cycS
  rw [h0]
  rfl

theorem visD_le {step B : Nat} (hs : step ≤ B) {s : DS} (h : ∀ k, s.1 k ≤ B) (x k : Nat) : (visD step s x).1 k ≤ B := by
  unfold visD
  split
  · show (if k = x then step else s.1 k) ≤ B
    split
    · exact hs
    · exact h k
  · exact h k
theorem rowD_le {step B : Nat} (hs : step ≤ B) : ∀ (ks : List Nat) (s : DS), (∀ k, s.1 k ≤ B) → ∀ k, (rowD step s ks).1 k ≤ B
  | [], _, h => h
  | x :: ks, s, h => rowD_le hs ks (visD step s x) (visD_le hs h x)
theorem layD_le {next : Nat → List Nat} {step B : Nat} (hs : step ≤ B) : ∀ (todo : List Nat) (s : DS), (∀ k, s.1 k ≤ B) → ∀ k, (layD next step s todo).1 k ≤ B
  | [], _, h => h
  | i :: todo, s, h => layD_le hs todo (rowD step s (next i)) (rowD_le hs _ _ h)
theorem distTo_le {next : Nat → List Nat} {B : Nat} : ∀ (f step : Nat) (o : Nat → Nat) (todo : List Nat), step + f ≤ B + 1 → (∀ k, o k ≤ B) → ∀ k, distTo next f step o todo k ≤ B
  | 0, _, _, _, _, h => h
  | f + 1, step, o, todo, hB, h => by
    intro k
    rw [distTo]
    split
    · exact h k
    · exact distTo_le f (step + 1) _ _ (by omega) (layD_le (by omega) _ _ h) k
theorem distF_le (next : Nat → List Nat) (n a k : Nat) : distF next n a k ≤ n + 1 := distTo_le (n + 1) 1 _ _ (by omega) (fun _ => Nat.zero_le _) k

def nextC (G : Gr) (D : Nat → Nat) (i m : Nat) : List Nat := (ab G i).filter fun k => decide (D k = m)
theorem pathC_one (G : Gr) (D : Nat → Nat) (i : Nat) : pathC G D 1 i = [idA G i] := rfl
theorem pathC_more {G : Gr} {D : Nat → Nat} {m i k : Nat} (hm : m ≠ 0) (h : firstF (idA G) (nextC G D i m) = some k) : pathC G D (m + 1) i = idA G i :: pathC G D m k := by
  rw [pathC, if_neg hm]
  have : firstF (idA G) ((ab G i).filter fun k => decide (D k = m)) = some k := h
  rw [this]
theorem nextC_some {G : Gr} (hs : Sound G) {s i m : Nat} (hi : distF (be G) G.length s i = m + 1) (hm : m ≠ 0) : ∃ k, firstF (idA G) (nextC G (distF (be G) G.length s) i m) = some k ∧ distF (be G) G.length s k = m ∧ k < G.length := by
  obtain ⟨k0, h1, h2⟩ := nearer hs hi hm
  obtain ⟨k, h3, h4, _⟩ := firstF_some (idA G) (l := nextC G (distF (be G) G.length s) i m) (by
    intro h0
    have : k0 ∈ nextC G (distF (be G) G.length s) i m := by unfold nextC; rw [List.mem_filter, decide_eq_true_eq]; exact ⟨h1, h2⟩
    rw [h0] at this
    cases this)
  unfold nextC at h4
  rw [List.mem_filter, decide_eq_true_eq] at h4
  exact ⟨k, h3, h4.2, (hs.ab_lt h4.1).1⟩
theorem cycF_at {G : Gr} {s : Nat} (h : cycS G = some s) : cycF G = pathC G (distF (be G) G.length s) (distF (be G) G.length s s) s := by
  unfold cycF
  rw [h]
def cycleF (G : Gr) : List Bs := if formedF G ≠ 0 then [] else cycF G
end Go.Proofs.YtfegmmafcopbpaaGreatDoor
/- A most expensive path, in plain words: what package graph computes; no program in sight. -/
namespace Go.Proofs.YtfegmmafcopbpaaGreatDoor

def innQ (i : Nat) (B : Nat → Nat) (k : Nat) : Nat → Nat := fun j => if j = i then max (B i) (B k) else B j
def visQ (G : Gr) (C : Nat → Nat) (B : Nat → Nat) (i : Nat) : Nat → Nat := fun j => if j = i then ((be G i).foldl (innQ i) B) i + C i else ((be G i).foldl (innQ i) B) j
def critTo (G : Gr) (C : Nat → Nat) (l : List Nat) : Nat → Nat := l.foldl (visQ G C) (fun _ => 0)
theorem critTo_snoc (G : Gr) (C : Nat → Nat) (l : List Nat) (i : Nat) : critTo G C (l ++ [i]) = visQ G C (critTo G C l) i := by simp [critTo]
theorem innQ_le {B : Nat → Nat} {M : Nat} (h : ∀ k, B k ≤ M) (i k : Nat) : ∀ j, innQ i B k j ≤ M := by
  intro j
  unfold innQ
  split
  · exact Nat.max_le.2 ⟨h _, h _⟩
  · exact h j
theorem foldQ_le {M : Nat} (i : Nat) : ∀ (ks : List Nat) (B : Nat → Nat), (∀ k, B k ≤ M) → ∀ j, (ks.foldl (innQ i) B) j ≤ M
  | [], _, h => h
  | k :: ks, B, h => foldQ_le i ks (innQ i B k) (innQ_le h i k)
theorem visQ_le {G : Gr} {C B : Nat → Nat} {M D : Nat} (h : ∀ k, B k ≤ M) (hC : ∀ k, C k ≤ D) (i : Nat) : ∀ j, visQ G C B i j ≤ M + D := by
  intro j
  have h1 := foldQ_le i (be G i) B h
  unfold visQ
  split
  · have := h1 i; have := hC i; omega
  · have := h1 j; omega
theorem critTo_le {G : Gr} {C : Nat → Nat} {D : Nat} (hC : ∀ k, C k ≤ D) : ∀ (l : List Nat) (B : Nat → Nat) (M : Nat), (∀ k, B k ≤ M) → ∀ j, (l.foldl (visQ G C) B) j ≤ M + l.length * D
  | [], _, _, h => by simpa using h
  | i :: l, B, M, h => by
    intro j
    have := critTo_le (G := G) hC l (visQ G C B i) (M + D) (visQ_le h hC i) j
    simp only [List.foldl_cons, List.length_cons, Nat.succ_mul]
    omega
theorem critTo_bound {G : Gr} {C : Nat → Nat} {D : Nat} (hC : ∀ k, C k ≤ D) (l : List Nat) (j : Nat) : critTo G C l j ≤ l.length * D := by
  have := critTo_le (G := G) hC l (fun _ => 0) 0 (fun _ => Nat.le_refl _) j
  simpa [critTo] using this
end Go.Proofs.YtfegmmafcopbpaaGreatDoor
/- A most expensive path, in plain words, on: its cost at each node; the path. -/
namespace Go.Proofs.YtfegmmafcopbpaaGreatDoor

theorem ord_all {G : Gr} (hf : (ordG G).length = G.length) {k : Nat} (hk : k < G.length) : k ∈ ordG G := by
  refine Classical.byContradiction fun hno => ?_
  have hl := ordG_listed G
  have := nodup_le (List.range G.length) (k :: ordG G) (List.nodup_cons.2 ⟨hno, hl.nodup⟩) (fun q hq => by
    rcases List.mem_cons.1 hq with rfl | hq
    · exact List.mem_range.2 hk
    · exact List.mem_range.2 (hl.lt q hq))
  simp at this
  omega

/-- what needs a node stands behind it -/
theorem ord_be {G : Gr} (hs : Sound G) (hf : (ordG G).length = G.length) {p q : List Nat} {k : Nat} (e : ordG G = p ++ k :: q) {x : Nat} (hx : x ∈ be G k) : x ∈ q := by
  have hxa := (mem_be hs).1 hx
  have hxm := ord_all hf (be_lt hx)
  obtain ⟨p', q', e'⟩ := List.append_of_mem hxm
  have h1 := ordG_ahead G p' q' x e' k hxa
  have hn := (ordG_listed G).nodup
  rw [e] at hxm
  rcases List.mem_append.1 hxm with h2 | h2
  · exfalso
    obtain ⟨a, b, rfl⟩ := List.append_of_mem h2
    have h3 := ordG_ahead G a (b ++ k :: q) x (by rw [e]; simp) k hxa
    rw [e, List.append_assoc, List.nodup_append] at hn
    exact hn.2.2 k h3 k (by simp) rfl
  · rcases List.mem_cons.1 h2 with rfl | h2
    · exfalso
      have h3 := ordG_ahead G p q x e x hxa
      rw [e, List.nodup_append] at hn
      exact hn.2.2 x h3 x (by simp) rfl
    · exact h2

theorem ord_pos {G : Gr} (hs : Sound G) (hf : (ordG G).length = G.length) {k x : Nat} (hk : k < G.length) (hx : x ∈ be G k) : (ordG G).idxOf k < (ordG G).idxOf x := by
  obtain ⟨p, q, e⟩ := List.append_of_mem (ord_all hf hk)
  have hxq := ord_be hs hf e hx
  have hn := (ordG_listed G).nodup
  rw [e] at hn ⊢
  rw [List.nodup_append, List.nodup_cons] at hn
  have hkp : k ∉ p := fun h => hn.2.2 k h k (by simp) rfl
  have hxp : x ∉ p := fun h => hn.2.2 x h x (by simp [hxq]) rfl
  have hxk : x ≠ k := fun h => hn.2.1.1 (h ▸ hxq)
  rw [List.idxOf_append, List.idxOf_append, if_neg hkp, if_neg hxp, List.idxOf_cons_self, List.idxOf_cons, show (k == x) = false from beq_eq_false_iff_ne.2 (fun h => hxk h.symm)]
  simp

def maxQ (B : Nat → Nat) (l : List Nat) : Nat := l.foldl (fun a k => max a (B k)) 0
theorem maxQ_from (B : Nat → Nat) : ∀ (l : List Nat) (a : Nat), l.foldl (fun a k => max a (B k)) a = max a (maxQ B l)
  | [], a => by simp [maxQ]
  | k :: l, a => by
    unfold maxQ
    rw [List.foldl_cons, List.foldl_cons, maxQ_from B l, maxQ_from B l (max 0 (B k))]
    omega
theorem maxQ_nil (B : Nat → Nat) : maxQ B [] = 0 := rfl
theorem maxQ_cons (B : Nat → Nat) (k : Nat) (l : List Nat) : maxQ B (k :: l) = max (B k) (maxQ B l) := by
  conv => lhs; unfold maxQ
  rw [List.foldl_cons, maxQ_from]; simp
theorem maxQ_le {B : Nat → Nat} : ∀ {l : List Nat} {k : Nat}, k ∈ l → B k ≤ maxQ B l
  | a :: l, k, h => by
    rw [maxQ_cons]
    rcases List.mem_cons.1 h with rfl | h
    · omega
    · have := maxQ_le (B := B) h; omega
theorem maxQ_at {B : Nat → Nat} : ∀ {l : List Nat}, maxQ B l ≠ 0 → ∃ k ∈ l, B k = maxQ B l
  | [], h => absurd rfl h
  | a :: l, h => by
    rw [maxQ_cons] at h ⊢
    by_cases h1 : maxQ B l ≤ B a
    · exact ⟨a, by simp, by omega⟩
    · obtain ⟨k, hk, e⟩ := maxQ_at (B := B) (l := l) (by omega)
      exact ⟨k, by simp [hk], by omega⟩
theorem maxQ_congr {B B' : Nat → Nat} {l : List Nat} (h : ∀ k ∈ l, B k = B' k) : maxQ B l = maxQ B' l := by
  induction l with
  | nil => rfl
  | cons a l ih => rw [maxQ_cons, maxQ_cons, h a (by simp), ih fun k hk => h k (by simp [hk])]

theorem inn_fold (i : Nat) : ∀ (ks : List Nat) (B : Nat → Nat), i ∉ ks → (∀ j, j ≠ i → (ks.foldl (innQ i) B) j = B j) ∧ (ks.foldl (innQ i) B) i = max (B i) (maxQ B ks)
  | [], B, _ => ⟨fun _ _ => rfl, by simp [maxQ]⟩
  | k :: ks, B, h => by
    have hk : k ≠ i := fun e => h (by simp [e])
    have hks : i ∉ ks := fun e => h (by simp [e])
    obtain ⟨h1, h2⟩ := inn_fold i ks (innQ i B k) hks
    refine ⟨fun j hj => ?_, ?_⟩
    · rw [List.foldl_cons, h1 j hj]; unfold innQ; rw [if_neg hj]
    · rw [List.foldl_cons, h2, maxQ_cons, maxQ_congr (B' := B) (l := ks) fun x hx => by unfold innQ; rw [if_neg (fun e => hks (by rw [← e]; exact hx))]]
      unfold innQ
      rw [if_pos rfl]
      omega
theorem visQ_self {G : Gr} {C B : Nat → Nat} {i : Nat} (h : i ∉ be G i) : visQ G C B i i = max (B i) (maxQ B (be G i)) + C i := by
  unfold visQ; rw [if_pos rfl, (inn_fold i _ B h).2]
theorem visQ_other {G : Gr} {C B : Nat → Nat} {i j : Nat} (h : i ∉ be G i) (hj : j ≠ i) : visQ G C B i j = B j := by
  unfold visQ; rw [if_neg hj, (inn_fold i _ B h).1 j hj]

/-- the cost of each node's most expensive path -/
theorem crit_part {G : Gr} (hs : Sound G) (hf : (ordG G).length = G.length) (C : Nat → Nat) : ∀ (q p : List Nat), ordG G = p ++ q → (∀ j, j ∉ q → critTo G C q.reverse j = 0) ∧ ∀ j ∈ q, critTo G C q.reverse j = maxQ (critTo G C q.reverse) (be G j) + C j
  | [], p, _ => ⟨fun _ _ => rfl, fun j hj => by cases hj⟩
  | k :: q, p, e => by
    obtain ⟨h1, h2⟩ := crit_part hs hf C q (p ++ [k]) (by rw [e]; simp)
    have hn := (ordG_listed G).nodup
    rw [e, List.nodup_append, List.nodup_cons] at hn
    have hkq := hn.2.1.1
    have hkb : k ∉ be G k := fun h => hkq (ord_be hs hf e h)
    rw [List.reverse_cons, critTo_snoc]
    refine ⟨fun j hj => ?_, fun j hj => ?_⟩
    · rw [visQ_other hkb (fun h => hj (by simp [h]))]
      exact h1 j (fun h => hj (by simp [h]))
    · have hbe : ∀ x ∈ be G j, x ≠ k := by
        intro x hx hxk
        rcases List.mem_cons.1 hj with rfl | hjq
        · exact hkb (hxk ▸ hx)
        · obtain ⟨a, b, rfl⟩ := List.append_of_mem hjq
          have := ord_be hs hf (p := p ++ k :: a) (q := b) (by rw [e]; simp) hx
          exact hkq (by rw [← hxk]; simp [this])
      rw [maxQ_congr (B' := critTo G C q.reverse) fun x hx => visQ_other hkb (hbe x hx)]
      rcases List.mem_cons.1 hj with rfl | hjq
      · rw [visQ_self hkb, h1 j hkq]; omega
      · rw [visQ_other hkb (fun h => hkq (h ▸ hjq))]
        exact h2 j hjq
def bestQ (G : Gr) (C : Nat → Nat) : Nat → Nat := critTo G C (ordG G).reverse
theorem crit_eq {G : Gr} (hs : Sound G) (hf : (ordG G).length = G.length) (C : Nat → Nat) {j : Nat} (hj : j < G.length) : bestQ G C j = maxQ (bestQ G C) (be G j) + C j :=
  (crit_part hs hf C (ordG G) [] rfl).2 j (ord_all hf hj)

/-- where the path goes on; the path -/
def nxQ (G : Gr) (B C : Nat → Nat) (i : Nat) : List Nat := (be G i).filter fun k => decide (B k = B i - C i)
def pathQ (G : Gr) (B C : Nat → Nat) : Nat → Nat → List Bs
  | 0, _ => []
  | f + 1, i => idA G i :: if B i = C i then [] else match firstF (idA G) (nxQ G B C i) with
    | none => []
    | some k => pathQ G B C f k
theorem nxQ_some {G : Gr} (hs : Sound G) (hf : (ordG G).length = G.length) {C : Nat → Nat} {i : Nat} (hi : i < G.length) (hne : bestQ G C i ≠ C i) :
    ∃ k, firstF (idA G) (nxQ G (bestQ G C) C i) = some k ∧ k ∈ be G i ∧ k < G.length ∧ (ordG G).idxOf i < (ordG G).idxOf k := by
  have h := crit_eq hs hf C hi
  obtain ⟨x, hx, hxe⟩ := maxQ_at (B := bestQ G C) (l := be G i) (by omega)
  have hmem : x ∈ nxQ G (bestQ G C) C i := by
    unfold nxQ
    rw [List.mem_filter]
    exact ⟨hx, by simp; omega⟩
  obtain ⟨k, h1, h2, _⟩ := firstF_some (idA G) (List.ne_nil_of_mem hmem)
  have h3 : k ∈ be G i := (List.mem_filter.1 h2).1
  exact ⟨k, h1, h3, be_lt h3, ord_pos hs hf hi h3⟩
def mostQ (G : Gr) (B : Nat → Nat) : Nat := maxQ B (List.range G.length)
def startQ (G : Gr) (B : Nat → Nat) : List Nat := (List.range G.length).filter fun k => decide (B k = mostQ G B)
theorem startQ_some {G : Gr} (hpos : G.length ≠ 0) (B : Nat → Nat) : ∃ s, firstF (idA G) (startQ G B) = some s ∧ s < G.length ∧ B s = mostQ G B := by
  have hex : ∃ x < G.length, B x = mostQ G B := by
    by_cases h0 : mostQ G B = 0
    · have := maxQ_le (B := B) (l := List.range G.length) (k := 0) (List.mem_range.2 (by omega))
      unfold mostQ at h0 ⊢
      exact ⟨0, by omega, by omega⟩
    · obtain ⟨x, hx, e⟩ := maxQ_at h0
      exact ⟨x, List.mem_range.1 hx, e⟩
  obtain ⟨x, hx, e⟩ := hex
  obtain ⟨s, h1, h2, _⟩ := firstF_some (idA G) (l := startQ G B) (List.ne_nil_of_mem (a := x) (by unfold startQ; rw [List.mem_filter, List.mem_range]; exact ⟨hx, by simp [e]⟩))
  unfold startQ at h2
  rw [List.mem_filter, List.mem_range, decide_eq_true_eq] at h2
  exact ⟨s, h1, h2.1, h2.2⟩
/-- the cost and the path of a sound graph without cycles -/
def critF (G : Gr) (C : Nat → Nat) : Nat × List Bs := (mostQ G (bestQ G C), match firstF (idA G) (startQ G (bestQ G C)) with
  | none => []
  | some s => pathQ G (bestQ G C) C G.length s)
end Go.Proofs.YtfegmmafcopbpaaGreatDoor
/- What the reference computes about graphs, in plain words: the free nodes by names, the layers by names; no program in sight. -/
namespace Go.Proofs.YtfegmmafcopbpaaGreatDoor

def namesG (G : Gr) (out : List Nat) : List Bs := out.map (idA G)
theorem mem_names {G : Gr} (hs : Sound G) {out : List Nat} (hl : ∀ k ∈ out, k < G.length) {i : Nat} (hi : i < G.length) : idA G i ∈ namesG G out ↔ i ∈ out := by
  unfold namesG
  rw [List.mem_map]
  constructor
  · rintro ⟨k, hk, e⟩
    rw [← idA_inj hs.nodup (hl k hk) hi e]
    exact hk
  · exact fun h => ⟨i, h, rfl⟩
/-- is a node free, by names -/
def frB (G : Gr) (listed : List Bs) (i : Nat) : Bool := !decide (idA G i ∈ listed) && (needA G i).all fun b => decide (b ∈ listed)
def freeN (G : Gr) (listed : List Bs) : List Nat := (List.range G.length).filter (frB G listed)
theorem freeN_eq {G : Gr} (hs : Sound G) {out : List Nat} (hl : ∀ k ∈ out, k < G.length) : freeN G (namesG G out) = freeG G out := by
  unfold freeN freeG
  refine List.filter_congr fun k hk => ?_
  rw [List.mem_range] at hk
  unfold frB ab
  rw [List.all_map]
  congr 1
  · rw [decide_eq_decide.2 (mem_names hs hl hk)]
  · rw [Bool.eq_iff_iff, List.all_eq_true, List.all_eq_true]
    refine forall_congr' fun b => forall_congr' fun hb => ?_
    have hi := hs.need hb
    rw [decide_eq_true_eq, Function.comp, decide_eq_true_eq, ← mem_names hs hl (posG_lt hi), idA_pos hi]

/-- the elements of a list from a place on that pass a test -/
theorem drop_filter (p : Nat → Bool) {n i : Nat} (hi : i < n) : ((List.range n).drop i).filter p = if p i then i :: ((List.range n).drop (i + 1)).filter p else ((List.range n).drop (i + 1)).filter p := by
  rw [List.drop_eq_getElem_cons (by simpa using hi), List.filter_cons]
  simp
theorem drop_filter_end (p : Nat → Bool) (n : Nat) : ((List.range n).drop n).filter p = [] := by
  rw [List.drop_eq_nil_of_le (by simp)]
  rfl

/-- the ordered list does not change once nothing is free -/
theorem ord_from {G : Gr} (hs : Sound G) {out : List Nat} (h : Listed G out) (e : ordTo G (G.length - out.length) out = ordG G) :
    (∀ i, firstF (idA G) (freeN G (namesG G out)) = some i → Listed G (out ++ [i]) ∧ ordTo G (G.length - (out ++ [i]).length) (out ++ [i]) = ordG G ∧ i < G.length ∧ out.length < G.length) ∧
    (firstF (idA G) (freeN G (namesG G out)) = none → out = ordG G) := by
  rw [freeN_eq hs h.lt]
  refine ⟨fun i hi => ?_, fun hn => ?_⟩
  · have ha := h.add (firstF_mem hi).1
    refine ⟨ha, by rw [← ordTo_step h hi]; exact e, (mem_freeG.1 (firstF_mem hi).1).1, ?_⟩
    have := ha.len
    simp at this
    omega
  · have h0 : freeG G out = [] := by
      refine Classical.byContradiction fun h1 => ?_
      obtain ⟨m, h2, _⟩ := firstF_some (idA G) h1
      rw [h2] at hn
      cases hn
    rw [← e, ordTo_end h0]

/-! ### distances -/
theorem visD_keep {step : Nat} {s : DS} {j : Nat} (x : Nat) (h : s.1 j ≠ 0) : (visD step s x).1 j = s.1 j := by
  unfold visD
  split
  · rename_i h0
    show (if j = x then step else s.1 j) = s.1 j
    rw [if_neg (fun e => h (by rw [e]; exact h0))]
  · rfl
theorem rowD_keep {step : Nat} {j : Nat} : ∀ (ks : List Nat) (s : DS), s.1 j ≠ 0 → (rowD step s ks).1 j = s.1 j
  | [], s, _ => rfl
  | k :: ks, s, h => by
    have h1 := visD_keep (step := step) k h
    show (rowD step (visD step s k) ks).1 j = s.1 j
    rw [rowD_keep ks _ (by rw [h1]; exact h), h1]
theorem layD_keep {next : Nat → List Nat} {step : Nat} {j : Nat} : ∀ (todo : List Nat) (s : DS), s.1 j ≠ 0 → (layD next step s todo).1 j = s.1 j
  | [], s, _ => rfl
  | k :: ks, s, h => by
    have h1 := rowD_keep (step := step) (next k) s h
    show (layD next step (rowD step s (next k)) ks).1 j = s.1 j
    rw [layD_keep ks _ (by rw [h1]; exact h), h1]
theorem distTo_keep {next : Nat → List Nat} {j : Nat} : ∀ (f step : Nat) (o : Nat → Nat) (todo : List Nat), o j ≠ 0 → distTo next f step o todo j = o j
  | 0, _, _, _, _ => rfl
  | f + 1, step, o, todo, h => by
    rw [distTo]
    split
    · rfl
    · have h1 := layD_keep (next := next) (step := step) todo (o, []) h
      rw [distTo_keep f _ _ _ (by rw [h1]; exact h), h1]
/-- a layer holds what its step was written to -/
def DNew (step : Nat) (s : DS) : Prop := s.2.Nodup ∧ ∀ k, k ∈ s.2 ↔ s.1 k = step
theorem visD_new {step : Nat} (hs : step ≠ 0) {s : DS} (h : DNew step s) (x : Nat) : DNew step (visD step s x) := by
  unfold visD
  split
  · rename_i h0
    have hx : x ∉ s.2 := fun hx => hs (by rw [← (h.2 x).1 hx]; exact h0)
    refine ⟨?_, fun k => ?_⟩
    · show (s.2 ++ [x]).Nodup
      rw [List.nodup_append]
      exact ⟨h.1, by simp, fun a ha b hb => by simp at hb; subst hb; rintro rfl; exact hx ha⟩
    · show k ∈ s.2 ++ [x] ↔ (if k = x then step else s.1 k) = step
      by_cases hk : k = x
      · simp [hk]
      · simp only [List.mem_append, List.mem_singleton, hk, or_false, if_false]
        exact h.2 k
  · exact h
theorem rowD_new {step : Nat} (hs : step ≠ 0) : ∀ (ks : List Nat) (s : DS), DNew step s → DNew step (rowD step s ks)
  | [], _, h => h
  | k :: ks, _, h => rowD_new hs ks _ (visD_new hs h k)
theorem layD_dnew {next : Nat → List Nat} {step : Nat} (hs : step ≠ 0) : ∀ (todo : List Nat) (s : DS), DNew step s → DNew step (layD next step s todo)
  | [], _, h => h
  | k :: ks, _, h => layD_dnew hs ks _ (rowD_new hs (next k) _ h)

/-- a round of the search for a distance: the layer `todo` was reached at `step`; nothing is looked for further than needed -/
structure DisSt (next : Nat → List Nat) (n a : Nat) (step : Nat) (o : Nat → Nat) (todo : List Nat) : Prop where
  pos : 0 < step
  new : DNew step (o, todo)
  le : ∀ k, o k ≤ step
  lt : ∀ k ∈ todo, k < n
  is : ∀ k, distTo next (n + 1 - step) (step + 1) o todo k = distF next n a k
  fuel : zeros n o + step ≤ n + if todo = [] then 1 else 0
theorem distF_first {next : Nat → List Nat} {n a : Nat} : distF next n a = distTo next n 2 (rowD 1 (fun _ => 0, []) (next a)).1 (rowD 1 (fun _ => 0, []) (next a)).2 := by
  unfold distF
  rw [distTo, if_neg (by simp)]
  rfl
theorem rowD_nodup {step : Nat} : ∀ (ks : List Nat) (s : DS), step ≠ 0 → ks.Nodup → (∀ k ∈ ks, s.1 k = 0) → (rowD step s ks).2 = s.2 ++ ks ∧ ∀ j, (rowD step s ks).1 j = if j ∈ ks then step else s.1 j
  | [], s, _, _, _ => by simp [rowD]
  | k :: ks, s, h0, hn, h => by
    have hk := h k (by simp)
    have hkk := (List.nodup_cons.1 hn).1
    have e : visD step s k = (fun j => if j = k then step else s.1 j, s.2 ++ [k]) := by unfold visD; rw [if_pos hk]
    obtain ⟨h1, h2⟩ := rowD_nodup ks (visD step s k) h0 (List.nodup_cons.1 hn).2 (fun x hx => by
      rw [e]
      show (if x = k then step else s.1 x) = 0
      rw [if_neg (fun e2 => hkk (by rw [← e2]; exact hx))]
      exact h x (by simp [hx]))
    refine ⟨?_, fun j => ?_⟩
    · show (rowD step (visD step s k) ks).2 = _
      rw [h1, e]; simp
    · show (rowD step (visD step s k) ks).1 j = _
      rw [h2, e]
      show (if j ∈ ks then step else if j = k then step else s.1 j) = _
      by_cases hj : j = k <;> by_cases hj2 : j ∈ ks <;> simp [hj, hj2]
theorem dis_start {G : Gr} (hs : Sound G) (a : Nat) : DisSt (ab G) G.length a 1 (fun j => if j ∈ ab G a then 1 else 0) (ab G a) := by
  obtain ⟨h1, h2⟩ := rowD_nodup (step := 1) (ab G a) (fun _ => 0, []) (by omega) (hs.ab_nodup a) (fun _ _ => rfl)
  have h3 : (rowD 1 ((fun _ => 0, []) : DS) (ab G a)).1 = fun j => if j ∈ ab G a then 1 else 0 := funext fun j => by rw [h2]
  have h4 : (rowD 1 ((fun _ => 0, []) : DS) (ab G a)).2 = ab G a := by rw [h1]; simp
  refine ⟨by omega, ⟨hs.ab_nodup a, fun k => ?_⟩, fun k => ?_, fun k hk => (hs.ab_lt hk).1, fun k => ?_, ?_⟩
  · show _ ↔ (if k ∈ ab G a then 1 else 0) = 1
    by_cases h : k ∈ ab G a <;> simp [h]
  · by_cases h : k ∈ ab G a <;> simp [h]
  · rw [distF_first, h3, h4]; rfl
  · have hz := rowD_zeros (n := G.length) (step := 1) (by omega) (ab G a) (fun _ => 0, []) (fun k hk => (hs.ab_lt hk).1)
    rw [h3, h4] at hz
    have h5 := zeros_le G.length (fun _ => 0)
    simp only [List.length_nil, Nat.add_zero] at hz
    by_cases h0 : ab G a = []
    · rw [if_pos h0]; omega
    · have := List.length_pos_iff.2 h0
      rw [if_neg h0]; omega
theorem dis_step {G : Gr} (hs : Sound G) {a step : Nat} {o : Nat → Nat} {todo : List Nat} (h : DisSt (ab G) G.length a step o todo) (hne : todo ≠ []) :
    DisSt (ab G) G.length a (step + 1) (layD (ab G) (step + 1) (o, []) todo).1 (layD (ab G) (step + 1) (o, []) todo).2 := by
  have hz := layD_zeros (n := G.length) (step := step + 1) (ab_in hs) (by omega) todo (o, [])
  have hd := layD_dnew (next := ab G) (step := step + 1) (by omega) todo (o, []) ⟨List.nodup_nil, fun k => ⟨fun h => (nomatch h), fun e => absurd e (by have := h.le k; show o k ≠ _; omega)⟩⟩
  have hle : ∀ k, (layD (ab G) (step + 1) (o, []) todo).1 k ≤ step + 1 := layD_le (by omega) todo (o, []) (fun k => Nat.le_trans (h.le k) (by omega))
  have hf := h.fuel
  have hlt := layD_lt (step := step + 1) (ab_in hs) todo (o, []) (by simp)
  have hpos := h.pos
  rw [if_neg hne] at hf
  refine ⟨by omega, hd, hle, hlt, fun k => ?_, ?_⟩
  · rw [← h.is k]
    obtain ⟨f, hf2⟩ : ∃ f, G.length + 1 - step = f + 1 := ⟨G.length - step, by omega⟩
    rw [hf2, distTo, if_neg hne]
    congr 1
    omega
  · simp only [List.length_nil, Nat.add_zero] at hz
    by_cases h0 : (layD (ab G) (step + 1) (o, []) todo).2 = []
    · rw [if_pos h0]; omega
    · have := List.length_pos_iff.2 h0
      rw [if_neg h0]; omega
theorem dis_found {next : Nat → List Nat} {n a step : Nat} {o : Nat → Nat} {todo : List Nat} (h : DisSt next n a step o todo) {k : Nat} (hk : k ∈ todo) : distF next n a k = step := by
  have h1 := (h.new.2 k).1 hk
  have h1 : o k = step := h1
  rw [← h.is k, distTo_keep _ _ _ _ (by rw [h1]; have := h.pos; omega), h1]
theorem dis_end {next : Nat → List Nat} {n a step : Nat} {o : Nat → Nat} (h : DisSt next n a step o []) (k : Nat) : distF next n a k = o k := by
  rw [← h.is k]
  cases n + 1 - step with
  | zero => rfl
  | succ f => rw [distTo, if_pos rfl]

/-- both ways the same distance -/
theorem dist_turn {G : Gr} (hs : Sound G) (a k : Nat) : distF (ab G) G.length a k = distF (be G) G.length k a := by
  have h1 := distF_is (ab_in hs) a k
  have h2 := distF_is (be_in G) k a
  have hw : ∀ d, Walk (ab G) a d k ↔ Walk (be G) k d a := fun d => (walk_be hs).symm
  rcases h1 with ⟨e1, h1⟩ | ⟨e1, h1, h1'⟩ <;> rcases h2 with ⟨e2, h2⟩ | ⟨e2, h2, h2'⟩
  · omega
  · exact absurd ((hw _).2 h2) (h1 _ e2)
  · exact absurd ((hw _).1 h1) (h2 _ e1)
  · have := h1' _ e2 ((hw _).2 h2)
    have := h2' _ e1 ((hw _).1 h1)
    omega
end Go.Proofs.YtfegmmafcopbpaaGreatDoor
/- A best path as the reference comes by it, in plain words, and that it is the one of package graph; no program in sight. -/
namespace Go.Proofs.YtfegmmafcopbpaaGreatDoor

theorem fold_ext {α β : Type} {f g : β → α → β} : ∀ (l : List α) (b b' : β), b = b' → (∀ w, ∀ x ∈ l, f w x = g w x) → l.foldl f b = l.foldl g b'
  | [], b, b', e, _ => e
  | x :: l, b, b', e, h => by
    rw [List.foldl_cons, List.foldl_cons, e, h _ x (by simp)]
    exact fold_ext l _ _ rfl fun w y hy => h w y (by simp [hy])

/-- is a list of names before another one -/
def bfF : List Bs → List Bs → Bool
  | [], [] => false
  | [], _ :: _ => true
  | _ :: _, [] => false
  | x :: a, y :: b => if natC x y = 0 then bfF a b else decide (natC x y < 0)
abbrev Way := Nat × List Bs
def betF (a b : Way) : Way := if a.1 < b.1 ∨ (b.1 = a.1 ∧ bfF b.2 a.2 = true) then b else a

def pickF (id : Nat → Bs) (B : Nat → Nat) (j x : Nat) : Nat := if B j < B x ∨ (B x = B j ∧ natC (id x) (id j) < 0) then x else j
theorem pick_or (id : Nat → Bs) (B : Nat → Nat) (j x : Nat) : pickF id B j x = j ∨ pickF id B j x = x := by
  unfold pickF; split
  · exact .inr rfl
  · exact .inl rfl
theorem pick_fold (id : Nat → Bs) (B : Nat → Nat) : ∀ (l : List Nat) (j : Nat), firstF id ((j :: l).filter fun k => decide (B k = maxQ B (j :: l))) = some (l.foldl (pickF id B) j)
  | [], j => by
    simp [maxQ_cons, maxQ_nil, firstF, bestF]
  | x :: l, j => by
    rw [List.foldl_cons, ← pick_fold id B l (pickF id B j x)]
    have hm : maxQ B (j :: x :: l) = maxQ B (pickF id B j x :: l) := by
      rw [maxQ_cons, maxQ_cons, maxQ_cons]
      unfold pickF
      split <;> omega
    rw [hm]
    have hge := maxQ_le (B := B) (l := pickF id B j x :: l) (k := pickF id B j x) (by simp)
    generalize maxQ B (pickF id B j x :: l) = M at *
    rw [maxQ_cons, maxQ_cons] at hm
    rw [List.filter_cons, List.filter_cons, List.filter_cons]
    unfold firstF
    generalize l.filter (fun k => decide (B k = M)) = r
    by_cases h1 : B j < B x
    · have hp : pickF id B j x = x := by unfold pickF; rw [if_pos (Or.inl h1)]
      rw [hp] at hge ⊢
      rw [if_neg (c := decide (B j = M) = true) (by simp; omega)]
    · by_cases h2 : B x = B j
      · by_cases h3 : natC (id x) (id j) < 0
        · have hp : pickF id B j x = x := by unfold pickF; rw [if_pos (Or.inr ⟨h2, h3⟩)]
          rw [hp] at hge ⊢
          by_cases h4 : B x = M
          · simp only [h4, ← h2, decide_true, if_true, bestF, if_pos h3]
          · have h5 : ¬ B j = M := by omega
            simp only [h4, h5, decide_false, Bool.false_eq_true, if_false]
        · have hp : pickF id B j x = j := by unfold pickF; rw [if_neg (by rintro (h | h); exact h1 h; exact h3 h.2)]
          rw [hp] at hge ⊢
          by_cases h4 : B x = M
          · simp only [h4, ← h2, decide_true, if_true, bestF, if_neg h3]
          · have h5 : ¬ B j = M := by omega
            simp only [h4, h5, decide_false, Bool.false_eq_true, if_false]
      · have hp : pickF id B j x = j := by unfold pickF; rw [if_neg (by rintro (h | h); exact h1 h; exact h2 h.1)]
        rw [hp] at hge ⊢
        rw [if_neg (c := decide (B x = M) = true) (by simp; omega)]

/-- ways that begin with the same names and go on with different ones -/
theorem bfF_pre (p a b : List Bs) : bfF (p ++ a) (p ++ b) = bfF a b := by
  induction p with
  | nil => rfl
  | cons x p ih => rw [List.cons_append, List.cons_append, bfF, if_pos (natC_po.refl x), ih]
theorem bet_pick (id : Nat → Bs) (B : Nat → Nat) (c : Nat) (p : List Bs) (r : Nat → List Bs) {j x : Nat} (h : id x ≠ id j) :
    betF (c + B j, p ++ id j :: r j) (c + B x, p ++ id x :: r x) = (c + B (pickF id B j x), p ++ id (pickF id B j x) :: r (pickF id B j x)) := by
  have hn : natC (id x) (id j) ≠ 0 := fun e => h (natC_eq e)
  unfold betF pickF
  simp only [bfF_pre, bfF, if_neg hn, decide_eq_true_eq]
  by_cases h1 : B j < B x
  · rw [if_pos (.inl (by omega)), if_pos (.inl h1)]
  · by_cases h2 : B x = B j ∧ natC (id x) (id j) < 0
    · rw [if_pos (.inr ⟨by omega, h2.2⟩), if_pos (.inr h2)]
    · rw [if_neg (by rintro (h | h); omega; exact h2 ⟨by omega, h.2⟩), if_neg (by rintro (h | h); exact h1 h; exact h2 h)]
theorem bet_fold (id : Nat → Bs) (B : Nat → Nat) (c : Nat) (p : List Bs) (r : Nat → List Bs) : ∀ (l : List Nat) (j : Nat), ((j :: l).map id).Nodup →
    l.foldl (fun a x => betF a (c + B x, p ++ id x :: r x)) (c + B j, p ++ id j :: r j) = (c + B (l.foldl (pickF id B) j), p ++ id (l.foldl (pickF id B) j) :: r (l.foldl (pickF id B) j))
  | [], j, _ => rfl
  | x :: l, j, h => by
    rw [List.map_cons, List.map_cons, List.nodup_cons, List.nodup_cons] at h
    have hx : id x ≠ id j := fun e => h.1 (by rw [e]; simp)
    rw [List.foldl_cons, List.foldl_cons, bet_pick id B c p r hx]
    refine bet_fold id B c p r l _ ?_
    rw [List.map_cons, List.nodup_cons]
    refine ⟨?_, h.2.2⟩
    rcases pick_or id B j x with e | e <;> rw [e]
    · exact fun h1 => h.1 (by simp at h1 ⊢; exact .inr h1)
    · exact h.2.1
theorem bet_zero (id : Nat → Bs) (B : Nat → Nat) (c : Nat) (a : Bs) (r : Nat → List Bs) : ∀ l : List Nat, (l.map id).Nodup →
    l.foldl (fun w x => betF w (c + B x, [a] ++ id x :: r x)) (c, [a]) = if maxQ B l = 0 then (c, [a]) else match firstF id (l.filter fun k => decide (B k = maxQ B l)) with
      | none => (c, [a])
      | some m => (c + B m, a :: id m :: r m)
  | [], _ => rfl
  | x :: l, h => by
    have hn : (l.map id).Nodup := by rw [List.map_cons, List.nodup_cons] at h; exact h.2
    by_cases h0 : B x = 0
    · have e : betF (c, [a]) (c + B x, [a] ++ id x :: r x) = (c, [a]) := by
        unfold betF
        rw [if_neg]
        rintro (h1 | ⟨_, h2⟩)
        · simp only at h1; omega
        · rw [show ([a] : List Bs) = [a] ++ [] by simp] at h2
          simp only [List.append_nil] at h2
          have := bfF_pre [a] (id x :: r x) []
          simp only [List.append_nil] at this
          rw [this] at h2
          simp [bfF] at h2
      have hm : maxQ B (x :: l) = maxQ B l := by rw [maxQ_cons]; omega
      rw [List.foldl_cons, e, bet_zero id B c a r l hn, hm]
      by_cases h1 : maxQ B l = 0
      · rw [if_pos h1, if_pos h1]
      · rw [if_neg h1, if_neg h1, List.filter_cons, if_neg (by simp; omega)]
    · have e : betF (c, [a]) (c + B x, [a] ++ id x :: r x) = (c + B x, [a] ++ id x :: r x) := by
        unfold betF
        rw [if_pos (.inl (by show c < c + B x; omega))]
      rw [List.foldl_cons, e, bet_fold id B c [a] r l x h, if_neg (by rw [maxQ_cons]; omega), pick_fold]
      rfl

/-- the reference's best way from a node -/
def wayK (G : Gr) (C : Nat → Nat) (out : Nat → Way) (k : Nat) : Way :=
  ((List.range G.length).filter fun n => decide (idA G k ∈ needA G n)).foldl (fun w n => betF w (C k + (out n).1, idA G k :: (out n).2)) (C k, [idA G k])
def setW (out : Nat → Way) (k : Nat) (x : Way) : Nat → Way := fun j => if j = k then x else out j
def fromTo (G : Gr) (C : Nat → Nat) (l : List Nat) : Nat → Way := l.foldl (fun out k => setW out k (wayK G C out k)) (fun _ => (0, []))
theorem fromTo_snoc (G : Gr) (C : Nat → Nat) (l : List Nat) (k : Nat) : fromTo G C (l ++ [k]) = setW (fromTo G C l) k (wayK G C (fromTo G C l) k) := by simp [fromTo]

theorem need_be {G : Gr} (hs : Sound G) {k : Nat} (hk : k < G.length) : ((List.range G.length).filter fun n => decide (idA G k ∈ needA G n)) = be G k := by
  unfold be
  refine List.filter_congr fun n _ => ?_
  rw [decide_eq_decide]
  constructor
  · intro h
    have := ab_of_need h
    rwa [posG_id hs.nodup hk] at this
  · exact fun h => need_of_ab hs h
theorem path_fuel {G : Gr} (hs : Sound G) (hf : (ordG G).length = G.length) (C : Nat → Nat) : ∀ (f f' i : Nat), i < G.length → G.length ≤ (ordG G).idxOf i + f → G.length ≤ (ordG G).idxOf i + f' → pathQ G (bestQ G C) C f i = pathQ G (bestQ G C) C f' i := by
  intro f
  induction f with
  | zero =>
    intro f' i hi h1 _
    have := List.idxOf_lt_length_of_mem (ord_all hf hi)
    omega
  | succ f ih =>
    intro f' i hi h1 h2
    have h3 := List.idxOf_lt_length_of_mem (ord_all hf hi)
    obtain ⟨g, rfl⟩ : ∃ g, f' = g + 1 := ⟨f' - 1, by omega⟩
    rw [pathQ, pathQ]
    by_cases h4 : bestQ G C i = C i
    · rw [if_pos h4, if_pos h4]
    · rw [if_neg h4, if_neg h4]
      obtain ⟨k, h5, h6, h7, h8⟩ := nxQ_some hs hf hi h4
      rw [h5]
      simp only
      rw [ih g k h7 (by omega) (by omega)]
theorem path_head (G : Gr) (B C : Nat → Nat) {f : Nat} (hf : f ≠ 0) (i : Nat) : pathQ G B C f i = idA G i :: (pathQ G B C f i).tail := by
  cases f with
  | zero => exact absurd rfl hf
  | succ f => rfl
theorem wayK_eq {G : Gr} (hs : Sound G) (hf : (ordG G).length = G.length) (C : Nat → Nat) {out : Nat → Way} {k : Nat} (hk : k < G.length) (h : ∀ x ∈ be G k, out x = (bestQ G C x, pathQ G (bestQ G C) C G.length x)) :
    wayK G C out k = (bestQ G C k, pathQ G (bestQ G C) C G.length k) := by
  unfold wayK
  rw [need_be hs hk]
  have e : (be G k).foldl (fun w n => betF w (C k + (out n).1, idA G k :: (out n).2)) (C k, [idA G k]) = (be G k).foldl (fun w x => betF w (C k + bestQ G C x, [idA G k] ++ idA G x :: (pathQ G (bestQ G C) C G.length x).tail)) (C k, [idA G k]) := by
    refine fold_ext _ _ _ rfl fun w x hx => ?_
    rw [h x hx, path_head G _ C (by omega) x]
    rfl
  have hnd : ((be G k).map (idA G)).Nodup := by
    rw [List.Nodup, List.pairwise_map]
    exact (be_nodup G k).imp_of_mem fun ha hb hne e => hne (idA_inj hs.nodup (be_lt ha) (be_lt hb) e)
  rw [e, bet_zero (idA G) (bestQ G C) (C k) (idA G k) (fun x => (pathQ G (bestQ G C) C G.length x).tail) _ hnd]
  have hq := crit_eq hs hf C hk
  obtain ⟨f, hn⟩ : ∃ f, G.length = f + 1 := ⟨G.length - 1, by omega⟩
  by_cases h0 : maxQ (bestQ G C) (be G k) = 0
  · have h1 : bestQ G C k = C k := by omega
    rw [if_pos h0, hn, pathQ, if_pos h1, h1]
  · have h1 : bestQ G C k ≠ C k := by omega
    obtain ⟨m, h5, h6, h7, h8⟩ := nxQ_some hs hf hk h1
    have hnx : ((be G k).filter fun j => decide (bestQ G C j = maxQ (bestQ G C) (be G k))) = nxQ G (bestQ G C) C k := by
      unfold nxQ
      rw [show bestQ G C k - C k = maxQ (bestQ G C) (be G k) by omega]
    have hmm : bestQ G C m = maxQ (bestQ G C) (be G k) := by
      have h9 := (firstF_mem h5).1
      rw [← hnx, List.mem_filter, decide_eq_true_eq] at h9
      exact h9.2
    rw [if_neg h0, hnx, h5]
    simp only
    have e2 : pathQ G (bestQ G C) C G.length k = idA G k :: pathQ G (bestQ G C) C f m := by
      rw [hn, pathQ, if_neg h1, h5]
    rw [e2, path_fuel hs hf C f G.length m h7 (by omega) (by omega), ← path_head G _ C (by omega) m, hmm, show C k + maxQ (bestQ G C) (be G k) = bestQ G C k by omega]
theorem from_part {G : Gr} (hs : Sound G) (hf : (ordG G).length = G.length) (C : Nat → Nat) : ∀ (q p : List Nat), ordG G = p ++ q → ∀ j ∈ q, fromTo G C q.reverse j = (bestQ G C j, pathQ G (bestQ G C) C G.length j)
  | [], p, _ => fun j hj => by cases hj
  | k :: q, p, e => by
    have h1 := from_part hs hf C q (p ++ [k]) (by rw [e]; simp)
    have hk : k < G.length := (ordG_listed G).lt k (by rw [e]; simp)
    have hw := wayK_eq hs hf C hk fun x hx => h1 x (ord_be hs hf e hx)
    intro j hj
    rw [List.reverse_cons, fromTo_snoc, hw]
    unfold setW
    by_cases hjk : j = k
    · rw [if_pos hjk, hjk]
    · rw [if_neg hjk]
      exact h1 j ((List.mem_cons.1 hj).resolve_left hjk)
theorem from_eq {G : Gr} (hs : Sound G) (hf : (ordG G).length = G.length) (C : Nat → Nat) {j : Nat} (hj : j < G.length) : fromTo G C (ordG G).reverse j = (bestQ G C j, pathQ G (bestQ G C) C G.length j) :=
  from_part hs hf C (ordG G) [] rfl j (ord_all hf hj)
/-- the reference's Critical and the program's -/
theorem crit_same {G : Gr} (hs : Sound G) (hf : (ordG G).length = G.length) (hpos : G.length ≠ 0) (C : Nat → Nat) :
    ((List.range G.length).drop 1).foldl (fun w x => betF w (fromTo G C (ordG G).reverse x)) (fromTo G C (ordG G).reverse 0) = critF G C := by
  have e0 : fromTo G C (ordG G).reverse 0 = (0 + bestQ G C 0, [] ++ idA G 0 :: (pathQ G (bestQ G C) C G.length 0).tail) := by
    rw [from_eq hs hf C (by omega), path_head G _ C (by omega) 0]
    simp
  obtain ⟨n, hn⟩ : ∃ n, G.length = n + 1 := ⟨G.length - 1, by omega⟩
  have hr : List.range G.length = 0 :: (List.range G.length).drop 1 := by rw [hn, List.range_succ_eq_map]; rfl
  have e1 : ((List.range G.length).drop 1).foldl (fun w x => betF w (fromTo G C (ordG G).reverse x)) (fromTo G C (ordG G).reverse 0) =
      ((List.range G.length).drop 1).foldl (fun w x => betF w (0 + bestQ G C x, [] ++ idA G x :: (pathQ G (bestQ G C) C G.length x).tail)) (0 + bestQ G C 0, [] ++ idA G 0 :: (pathQ G (bestQ G C) C G.length 0).tail) := by
    rw [e0]
    refine fold_ext _ _ _ rfl fun w x hx => ?_
    have hx2 : x < G.length := List.mem_range.1 (List.mem_of_mem_drop hx)
    rw [from_eq hs hf C hx2, path_head G _ C (by omega) x]
    simp
  have hnd : ((0 :: (List.range G.length).drop 1).map (idA G)).Nodup := by
    rw [← hr, List.Nodup, List.pairwise_map]
    exact List.nodup_range.imp_of_mem fun ha hb hne e => hne (idA_inj hs.nodup (List.mem_range.1 ha) (List.mem_range.1 hb) e)
  rw [e1, bet_fold (idA G) (bestQ G C) 0 [] (fun x => (pathQ G (bestQ G C) C G.length x).tail) _ 0 hnd]
  have hp := pick_fold (idA G) (bestQ G C) ((List.range G.length).drop 1) 0
  rw [← hr] at hp
  have hst : firstF (idA G) (startQ G (bestQ G C)) = some (((List.range G.length).drop 1).foldl (pickF (idA G) (bestQ G C)) 0) := hp
  obtain ⟨s, h1, h2, h3⟩ := startQ_some hpos (bestQ G C)
  rw [hst] at h1
  injection h1 with h1
  unfold critF
  rw [hst, h1]
  simp only [Nat.zero_add, List.nil_append]
  rw [← path_head G _ C (by omega) s, h3]
end Go.Proofs.YtfegmmafcopbpaaGreatDoor
/- What package graph returns for any graph: in plain words; no program in sight. -/
namespace Go.Proofs.YtfegmmafcopbpaaGreatDoor

def validF (G : Gr) : Nat := if formedF G ≠ 0 then formedF G else if (ordG G).length < G.length then 14 else 0
/-- the names reached from a name, sorted; none if there is no such name -/
def reachF (G : Gr) (next : Nat → List Nat) (b : Bs) : List Bs := if b ∈ idsG G then sortF (hitF G next (posG G b)) else []
def aboveF (G : Gr) (b : Bs) : List Bs := if formedF G ≠ 0 then [] else reachF G (ab G) b
def belowF (G : Gr) (b : Bs) : List Bs := if formedF G ≠ 0 then [] else reachF G (be G) b
def orderF (G : Gr) : Gr := (ordG G).map fun i => (idA G i, needA G i)
def rdyB (G : Gr) (done : List Bs) (i : Nat) : Bool := !decide (idA G i ∈ done) && (needA G i).all fun b => decide (b ∈ done)
def readyL (G : Gr) (done : List Bs) : List Bs := ((List.range G.length).filter (rdyB G done)).map (idA G)
/-- the names of the nodes whose needs are done, sorted -/
def readyF (G : Gr) (done : List Bs) : List Bs := if formedF G ≠ 0 then [] else sortF (readyL G done)
end Go.Proofs.YtfegmmafcopbpaaGreatDoor
