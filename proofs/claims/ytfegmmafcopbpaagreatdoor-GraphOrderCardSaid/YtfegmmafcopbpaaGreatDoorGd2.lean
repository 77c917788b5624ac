/- To add what is ready, again and again, reaches all nodes exactly if there is no cycle: in plain words. -/
import Derived.Test.YtfegmmafcopbpaaGreatDoorGr
namespace Go.Proofs.YtfegmmafcopbpaaGreatDoor

/-- once no node fits, none is free -/
theorem ordTo_full {G : Gr} : ∀ (f : Nat) (out : List Nat), Listed G out → G.length ≤ out.length + f → freeG G (ordTo G f out) = []
  | 0, out, h, hl => by rw [ordTo]; exact freeG_full h (by omega)
  | f + 1, out, h, hl => by
    rw [ordTo]
    cases hi : firstF (idA G) (freeG G out) with
    | none =>
      by_cases h0 : freeG G out = []
      · exact h0
      · obtain ⟨m, h1, _⟩ := firstF_some (idA G) h0
        rw [hi] at h1; cases h1
    | some i =>
      exact ordTo_full f _ (h.add (firstF_mem hi).1) (by simp; omega)
theorem ordG_full (G : Gr) : freeG G (ordG G) = [] := ordTo_full _ _ (Listed.nil G) (by simp)

/-- what stands behind its needs is in each list that leaves no node free -/
theorem ahead_sub {G : Gr} {out S : List Nat} (ha : Ahead G out) (hl : ∀ k ∈ out, k < G.length) (hf : freeG G S = []) : ∀ k ∈ out, k ∈ S := by
  have key : ∀ (n : Nat) (p q : List Nat) (k : Nat), out = p ++ k :: q → p.length = n → k ∈ S := by
    intro n
    induction n using Nat.strongRecOn with
    | _ n ih =>
      intro p q k e hp
      refine Classical.byContradiction fun hk => ?_
      have hm : k ∈ freeG G S := mem_freeG.2 ⟨hl k (by rw [e]; simp), hk, fun m hm => by
        have h1 := ha p q k e m hm
        obtain ⟨p1, p2, rfl⟩ := List.append_of_mem h1
        exact ih p1.length (by rw [← hp]; simp) p1 (p2 ++ k :: q) m (by rw [e]; simp) rfl⟩
      rw [hf] at hm; cases hm
  intro k hk
  obtain ⟨p, q, e⟩ := List.append_of_mem hk
  exact key _ p q k e rfl

/-- names of nodes that are done: each behind its needs -/
def Inv (G : Gr) (D : List Bs) : Prop := ∃ out, D = namesG G out ∧ Listed G out ∧ Ahead G out
theorem Inv.nil (G : Gr) : Inv G [] := ⟨[], rfl, Listed.nil G, ahead_nil G⟩
theorem Inv.len {G : Gr} {D : List Bs} (h : Inv G D) : D.length ≤ G.length := by
  obtain ⟨out, rfl, h1, _⟩ := h
  have := h1.len
  simpa [namesG] using this
theorem Inv.add {G : Gr} (hs : Sound G) {D : List Bs} (h : Inv G D) {x : Bs} (hx : x ∈ idsG G) (hn : x ∉ D) (hd : ∀ b ∈ needA G (posG G x), b ∈ D) : Inv G (D ++ [x]) := by
  obtain ⟨out, rfl, h1, h2⟩ := h
  have hm : ∀ m ∈ ab G (posG G x), m ∈ out := by
    intro m hm
    obtain ⟨b, hb, rfl⟩ := List.mem_map.1 hm
    obtain ⟨k, hk, e⟩ := List.mem_map.1 (hd b hb)
    rw [← e, posG_id hs.nodup (h1.lt k hk)]
    exact hk
  have hf : posG G x ∈ freeG G out := mem_freeG.2 ⟨posG_lt hx, fun hk => hn (List.mem_map.2 ⟨_, hk, idA_pos hx⟩), hm⟩
  exact ⟨out ++ [posG G x], by simp [namesG, idA_pos hx], h1.add hf, ahead_add h2 hm⟩
theorem Inv.addL {G : Gr} (hs : Sound G) : ∀ (L D : List Bs), Inv G D → L.Nodup → (∀ x ∈ L, x ∈ idsG G ∧ x ∉ D ∧ ∀ b ∈ needA G (posG G x), b ∈ D) → Inv G (D ++ L)
  | [], D, h, _, _ => by simpa using h
  | x :: L, D, h, hn, hx => by
    have h1 := hx x (by simp)
    have h2 := Inv.addL hs L (D ++ [x]) (h.add hs h1.1 h1.2.1 h1.2.2) (List.nodup_cons.1 hn).2 (fun y hy => by
      have h3 := hx y (by simp [hy])
      refine ⟨h3.1, fun hm => ?_, fun b hb => List.mem_append_left _ (h3.2.2 b hb)⟩
      rcases List.mem_append.1 hm with hm | hm
      · exact h3.2.1 hm
      · simp at hm; subst hm; exact (List.nodup_cons.1 hn).1 hy)
    rwa [List.append_assoc] at h2
theorem asc_nodup {l : List Bs} (h : Asc l) : l.Nodup := by
  refine h.imp fun hlt e => ?_
  subst e
  exact lt_irr hlt
theorem mem_readyF {G : Gr} (hs : Sound G) (hf : formedF G = 0) {D : List Bs} {x : Bs} : x ∈ readyF G D ↔ x ∈ idsG G ∧ x ∉ D ∧ ∀ b ∈ needA G (posG G x), b ∈ D := by
  unfold readyF
  rw [if_neg (by simp [hf]), (sortF_asc _).2]
  unfold readyL
  rw [List.mem_map]
  simp only [List.mem_filter, List.mem_range, rdyB, Bool.and_eq_true, Bool.not_eq_true', decide_eq_false_iff_not, List.all_eq_true, decide_eq_true_eq]
  constructor
  · rintro ⟨k, ⟨h1, h2, h3⟩, rfl⟩
    refine ⟨idA_mem h1, h2, ?_⟩
    rw [posG_id hs.nodup h1]
    exact h3
  · rintro ⟨h1, h2, h3⟩
    exact ⟨posG G x, ⟨posG_lt h1, by rw [idA_pos h1]; exact h2, h3⟩, idA_pos h1⟩
theorem Inv.ready {G : Gr} (hs : Sound G) (hf : formedF G = 0) {D : List Bs} (h : Inv G D) : Inv G (D ++ readyF G D) := by
  refine h.addL hs _ _ ?_ fun x hx => (mem_readyF hs hf).1 hx
  unfold readyF
  rw [if_neg (by simp [hf])]
  exact asc_nodup (sortF_asc _).1

def doneTo (G : Gr) : Nat → List Bs
  | 0 => []
  | k + 1 => doneTo G k ++ readyF G (doneTo G k)
theorem done_inv {G : Gr} (hs : Sound G) (hf : formedF G = 0) : ∀ k, Inv G (doneTo G k)
  | 0 => Inv.nil G
  | k + 1 => (done_inv hs hf k).ready hs hf
theorem done_far {G : Gr} : ∀ k, k ≤ (doneTo G k).length ∨ readyF G (doneTo G k) = []
  | 0 => .inl (Nat.zero_le _)
  | k + 1 => by
    by_cases h : readyF G (doneTo G k) = []
    · right
      rw [doneTo, h, List.append_nil, h]
    · rcases done_far (G := G) k with h1 | h1
      · left
        have : 0 < (readyF G (doneTo G k)).length := List.length_pos_iff.2 h
        rw [doneTo, List.length_append]
        omega
      · exact absurd h1 h
/-- behind so many rounds as there are nodes none is ready -/
theorem done_end {G : Gr} (hs : Sound G) (hf : formedF G = 0) : readyF G (doneTo G G.length) = [] := by
  rcases done_far (G := G) G.length with h | h
  · refine List.eq_nil_iff_forall_not_mem.2 fun x hx => ?_
    have h1 := (mem_readyF hs hf).1 hx
    have h2 := (done_inv hs hf G.length).add hs h1.1 h1.2.1 h1.2.2
    have := h2.len
    simp at this
    omega
  · exact h
theorem formed_not14 (G : Gr) : formedF G ≠ 14 := by
  have hneed : ∀ (all l seen : List Bs), needF all seen l ≠ 14 := by
    intro all l
    induction l with
    | nil => intro seen; rw [needF]; decide
    | cons b l ih =>
      intro seen
      rw [needF]
      split
      · decide
      · split
        · decide
        · exact ih _
  have hneeds : ∀ (all : List Bs) (l : Gr), needsF all l ≠ 14 := by
    intro all l
    induction l with
    | nil => rw [needsF]; decide
    | cons b l ih =>
      rw [needsF]
      split
      · exact ih
      · exact hneed _ _ _
  have hids : ∀ (l : Gr) (seen : List Bs), idsF seen l ≠ 14 := by
    intro l
    induction l with
    | nil => intro seen; rw [idsF]; decide
    | cons b l ih =>
      intro seen
      rw [idsF]
      split
      · decide
      · split
        · decide
        · exact ih _
  unfold formedF
  split
  · decide
  · split
    · exact hneeds _ _
    · exact hids _ _
theorem proceeds {G : Gr} (hv : validF G = 0 ∨ validF G = 14) : readyF G (doneTo G G.length) = [] ∧ (decide ((doneTo G G.length).length = G.length) = decide (validF G = 0)) ∧ ∀ k, (doneTo G k).length ≤ G.length := by
  have hf : formedF G = 0 := by
    unfold validF at hv
    by_cases h : formedF G = 0
    · exact h
    · rw [if_pos h] at hv
      rcases hv with hv | hv
      · exact hv
      · exfalso
        exact formed_not14 G hv
  have hs := formed_sound hf
  have he := done_end hs hf
  refine ⟨he, ?_, fun k => (done_inv hs hf k).len⟩
  obtain ⟨out, hout, h1, h2⟩ := done_inv hs hf G.length
  rw [hout] at he ⊢
  have hfree : freeG G out = [] := by
    refine List.eq_nil_iff_forall_not_mem.2 fun k hk => ?_
    obtain ⟨a1, a2, a3⟩ := mem_freeG.1 hk
    have : idA G k ∈ readyF G (namesG G out) := (mem_readyF hs hf).2 ⟨idA_mem a1, fun hm => a2 ((mem_names hs h1.lt a1).1 hm), by
      rw [posG_id hs.nodup a1]
      intro b hb
      have h3 := a3 _ (ab_of_need hb)
      exact List.mem_map.2 ⟨_, h3, idA_pos (hs.need hb)⟩⟩
    rw [he] at this; cases this
  have hlen : (namesG G out).length = out.length := by simp [namesG]
  rw [hlen, decide_eq_decide]
  have hv0 : validF G = 0 ↔ G.length ≤ (ordG G).length := by
    unfold validF
    rw [if_neg (by simp [hf])]
    split <;> constructor <;> intro h <;> first | omega | rfl
  rw [hv0]
  have hol := h1.len
  constructor
  · intro hl
    have hall : ∀ k ∈ List.range G.length, k ∈ ordG G := fun k hk => by
      have hko : k ∈ out := by
        refine Classical.byContradiction fun hno => ?_
        have := nodup_le (List.range G.length) (k :: out) (List.nodup_cons.2 ⟨hno, h1.nodup⟩) (fun q hq => by
          rcases List.mem_cons.1 hq with rfl | hq
          · exact hk
          · exact List.mem_range.2 (h1.lt q hq))
        simp at this
        omega
      exact ahead_sub h2 h1.lt (ordG_full G) k hko
    have := nodup_le (ordG G) (List.range G.length) List.nodup_range hall
    simpa using this
  · intro hl
    have hfull : (ordG G).length = G.length := by have := (ordG_listed G).len; omega
    have hall : ∀ k ∈ List.range G.length, k ∈ out := fun k hk => ahead_sub (ordG_ahead G) (ordG_listed G).lt hfree k (ord_all hfull (List.mem_range.1 hk))
    have := nodup_le out (List.range G.length) List.nodup_range hall
    simp at this
    omega
end Go.Proofs.YtfegmmafcopbpaaGreatDoor
