/- The order of the nodes does not matter; a cycle is a cycle: in plain words. -/
import Derived.Test.YtfegmmafcopbpaaGreatDoorGd2
import Derived.Test.YtfegmmafcopbpaaGreatDoorGr
namespace Go.Proofs.YtfegmmafcopbpaaGreatDoor

/-- graphs that list the same nodes in other orders -/
structure Alike (G G' : Gr) : Prop where
  len : G.length = G'.length
  ids : ∀ x, x ∈ idsG G ↔ x ∈ idsG G'
  need : ∀ x ∈ idsG G, ∀ b, b ∈ needA G (posG G x) ↔ b ∈ needA G' (posG G' x)

def FreeB (G : Gr) (L : List Bs) (x : Bs) : Prop := x ∈ idsG G ∧ x ∉ L ∧ ∀ b ∈ needA G (posG G x), b ∈ L
theorem free_name {G : Gr} (hs : Sound G) {out : List Nat} (hl : ∀ k ∈ out, k < G.length) {k : Nat} (hk : k < G.length) : k ∈ freeG G out ↔ FreeB G (namesG G out) (idA G k) := by
  rw [mem_freeG]
  unfold FreeB
  rw [posG_id hs.nodup hk, mem_names hs hl hk]
  constructor
  · rintro ⟨_, h2, h3⟩
    refine ⟨idA_mem hk, h2, fun b hb => ?_⟩
    have h4 := h3 _ (ab_of_need hb)
    exact List.mem_map.2 ⟨_, h4, idA_pos (hs.need hb)⟩
  · rintro ⟨_, h2, h3⟩
    refine ⟨hk, h2, fun m hm => ?_⟩
    obtain ⟨b, hb, rfl⟩ := List.mem_map.1 hm
    obtain ⟨j, hj, e⟩ := List.mem_map.1 (h3 b hb)
    rw [← e, posG_id hs.nodup (hl j hj)]
    exact hj
theorem freeB_alike {G G' : Gr} (ha : Alike G G') {L : List Bs} {x : Bs} : FreeB G L x ↔ FreeB G' L x := by
  unfold FreeB
  constructor
  · rintro ⟨h1, h2, h3⟩
    exact ⟨(ha.ids x).1 h1, h2, fun b hb => h3 b ((ha.need x h1 b).2 hb)⟩
  · rintro ⟨h1, h2, h3⟩
    have h1' := (ha.ids x).2 h1
    exact ⟨h1', h2, fun b hb => h3 b ((ha.need x h1' b).1 hb)⟩
theorem free_some {G : Gr} (hs : Sound G) {out : List Nat} (hl : ∀ k ∈ out, k < G.length) {x : Bs} (h : FreeB G (namesG G out) x) : posG G x ∈ freeG G out := by
  rw [free_name hs hl (posG_lt h.1), idA_pos h.1]
  exact h

theorem next_name {G G' : Gr} (hs : Sound G) (hs' : Sound G') (ha : Alike G G') {out out' : List Nat} (h : Listed G out) (h' : Listed G' out') (e : namesG G out = namesG G' out') :
    (firstF (idA G) (freeG G out)).map (idA G) = (firstF (idA G') (freeG G' out')).map (idA G') := by
  have key : ∀ k ∈ freeG G out, posG G' (idA G k) ∈ freeG G' out' ∧ idA G' (posG G' (idA G k)) = idA G k := by
    intro k hk
    have hk1 := (mem_freeG.1 hk).1
    have h1 := (freeB_alike ha).1 ((free_name hs h.lt hk1).1 hk)
    rw [e] at h1
    exact ⟨free_some hs' h'.lt h1, idA_pos h1.1⟩
  have key' : ∀ k ∈ freeG G' out', posG G (idA G' k) ∈ freeG G out ∧ idA G (posG G (idA G' k)) = idA G' k := by
    intro k hk
    have hk1 := (mem_freeG.1 hk).1
    have h1 := (freeB_alike ha).2 ((free_name hs' h'.lt hk1).1 hk)
    rw [← e] at h1
    exact ⟨free_some hs h.lt h1, idA_pos h1.1⟩
  by_cases h0 : freeG G out = []
  · have h0' : freeG G' out' = [] := List.eq_nil_iff_forall_not_mem.2 fun k hk => by
      have := (key' k hk).1
      rw [h0] at this; cases this
    rw [h0, h0', firstF_nil, firstF_nil]
    rfl
  · have h0' : freeG G' out' ≠ [] := by
      intro hn
      obtain ⟨k, hk⟩ := List.exists_mem_of_ne_nil _ h0
      have := (key k hk).1
      rw [hn] at this; cases this
    obtain ⟨m, h1, h2, h3⟩ := firstF_some (idA G) h0
    obtain ⟨m', h1', h2', h3'⟩ := firstF_some (idA G') h0'
    rw [h1, h1']
    simp only [Option.map_some, Option.some.injEq]
    have a1 := h3 _ (key' m' h2').1
    rw [(key' m' h2').2] at a1
    have a2 := h3' _ (key m h2).1
    rw [(key m h2).2] at a2
    have a3 := natC_po.anti (idA G m) (idA G' m')
    exact natC_eq (by omega)
theorem names_add (G : Gr) (out : List Nat) (i : Nat) : namesG G (out ++ [i]) = namesG G out ++ [idA G i] := by simp [namesG]
theorem ord_alike {G G' : Gr} (hs : Sound G) (hs' : Sound G') (ha : Alike G G') : ∀ (f : Nat) (out out' : List Nat), Listed G out → Listed G' out' → namesG G out = namesG G' out' → namesG G (ordTo G f out) = namesG G' (ordTo G' f out')
  | 0, out, out', _, _, e => e
  | f + 1, out, out', h, h', e => by
    have hn := next_name hs hs' ha h h' e
    rw [ordTo, ordTo]
    cases h1 : firstF (idA G) (freeG G out) with
    | none =>
      rw [h1] at hn
      cases h2 : firstF (idA G') (freeG G' out') with
      | none => exact e
      | some i => rw [h2] at hn; cases hn
    | some i =>
      rw [h1] at hn
      cases h2 : firstF (idA G') (freeG G' out') with
      | none => rw [h2] at hn; cases hn
      | some i' =>
        rw [h2] at hn
        simp only [Option.map_some, Option.some.injEq] at hn
        exact ord_alike hs hs' ha f _ _ (h.add (firstF_mem h1).1) (h'.add (firstF_mem h2).1) (by rw [names_add, names_add, e, hn])
theorem ordG_alike {G G' : Gr} (hs : Sound G) (hs' : Sound G') (ha : Alike G G') : namesG G (ordG G) = namesG G' (ordG G') := by
  unfold ordG
  rw [← ha.len]
  exact ord_alike hs hs' ha _ [] [] (Listed.nil G) (Listed.nil G') rfl

/-- the nodes from an index on, then the others, each with its needs turned around -/
def turnG (G : Gr) (a : Nat) : Gr := (G.drop a ++ G.take a).map fun x => (x.1, x.2.reverse)
theorem turn_perm {α : Type} (G : List α) (a : Nat) : (G.drop a ++ G.take a).Perm G := by
  have h : (G.drop a ++ G.take a).Perm (G.take a ++ G.drop a) := List.perm_append_comm
  rwa [List.take_append_drop] at h
theorem turn_len (G : Gr) (a : Nat) : (turnG G a).length = G.length := by
  unfold turnG
  rw [List.length_map]
  exact (turn_perm G a).length_eq
theorem mem_turn {G : Gr} {a : Nat} {y : Bs × List Bs} : y ∈ turnG G a ↔ ∃ x ∈ G, y = (x.1, x.2.reverse) := by
  unfold turnG
  rw [List.mem_map]
  constructor
  · rintro ⟨x, hx, rfl⟩
    exact ⟨x, (turn_perm G a).mem_iff.1 hx, rfl⟩
  · rintro ⟨x, hx, rfl⟩
    exact ⟨x, (turn_perm G a).mem_iff.2 hx, rfl⟩
theorem turn_ids (G : Gr) (a : Nat) : (idsG (turnG G a)).Perm (idsG G) := by
  have : idsG (turnG G a) = (G.drop a ++ G.take a).map (·.1) := by unfold idsG turnG; rw [List.map_map]; rfl
  rw [this]
  exact (turn_perm G a).map _
theorem turn_get {α : Type} (G : List α) {a i : Nat} (ha : a < G.length) (hi : i < G.length) : (G.drop a ++ G.take a)[i]? = G[(a + i) % G.length]? := by
  by_cases h : i < G.length - a
  · rw [List.getElem?_append_left (by simp; exact h), List.getElem?_drop, Nat.mod_eq_of_lt (by omega)]
  · rw [List.getElem?_append_right (by simp; omega), List.length_drop, List.getElem?_take, if_pos (by omega)]
    congr 1
    have : a + i = (i - (G.length - a)) + G.length := by omega
    rw [this, Nat.add_mod_right, Nat.mod_eq_of_lt (by omega)]
theorem sound_turn {G : Gr} {a : Nat} : Sound (turnG G a) ↔ Sound G := by
  have hp := turn_ids G a
  constructor
  · rintro ⟨h1, h2, h3, h4⟩
    refine ⟨by rwa [turn_len] at h1, fun x hx => h2 (x.1, x.2.reverse) (mem_turn.2 ⟨x, hx, rfl⟩), hp.nodup_iff.1 h3, fun x hx => ?_⟩
    have h5 := h4 (x.1, x.2.reverse) (mem_turn.2 ⟨x, hx, rfl⟩)
    exact ⟨fun b hb => hp.mem_iff.1 (h5.1 b (List.mem_reverse.2 hb)), (List.reverse_perm x.2).nodup_iff.1 h5.2⟩
  · rintro ⟨h1, h2, h3, h4⟩
    refine ⟨by rw [turn_len]; exact h1, ?_, hp.nodup_iff.2 h3, ?_⟩
    · intro y hy
      obtain ⟨x, hx, rfl⟩ := mem_turn.1 hy
      exact h2 x hx
    · intro y hy
      obtain ⟨x, hx, rfl⟩ := mem_turn.1 hy
      have h5 := h4 x hx
      exact ⟨fun b hb => hp.mem_iff.2 (h5.1 b (List.mem_reverse.1 hb)), (List.reverse_perm x.2).nodup_iff.2 h5.2⟩
theorem sound_formed {G : Gr} (h : Sound G) : formedF G = 0 := by
  unfold formedF
  rw [if_neg (by have := h.len; omega), if_pos ((idsF_ok G []).2 ⟨h.parts, h.nodup, by simp⟩)]
  exact (needsF_ok _ G).2 h.needs
theorem formed_turn {G : Gr} {a : Nat} : formedF (turnG G a) = 0 ↔ formedF G = 0 :=
  ⟨fun h => sound_formed (sound_turn.1 (formed_sound h)), fun h => sound_formed (sound_turn.2 (formed_sound h))⟩
theorem need_of_mem {G : Gr} (hs : Sound G) {x : Bs × List Bs} (h : x ∈ G) : needA G (posG G x.1) = x.2 := by
  obtain ⟨i, hi, rfl⟩ := List.getElem_of_mem h
  have h1 : idA G i = G[i].1 := by unfold idA; rw [List.getD_eq_getElem?_getD, List.getElem?_eq_getElem hi]; rfl
  rw [← h1, posG_id hs.nodup hi]
  unfold needA
  rw [List.getD_eq_getElem?_getD, List.getElem?_eq_getElem hi]
  rfl
theorem turn_alike {G : Gr} (hs : Sound G) (a : Nat) : Alike G (turnG G a) := by
  have hs' := sound_turn (a := a).2 hs
  refine ⟨(turn_len G a).symm, fun x => ((turn_ids G a).mem_iff).symm, fun x hx b => ?_⟩
  obtain ⟨y, hy, rfl⟩ := List.mem_map.1 hx
  have h1 := need_of_mem hs hy
  have h2 := need_of_mem hs' (mem_turn.2 ⟨y, hy, rfl⟩)
  simp only at h1 h2
  rw [h1, h2, List.mem_reverse]
theorem turn_names {G : Gr} (hs : Sound G) (a : Nat) : namesG G (ordG G) = namesG (turnG G a) (ordG (turnG G a)) := ordG_alike hs (sound_turn.2 hs) (turn_alike hs a)
theorem valid_turn (G : Gr) (a : Nat) : (validF (turnG G a) = 0 ↔ validF G = 0) ∧ (validF (turnG G a) = 14 ↔ validF G = 14) := by
  by_cases h : formedF G = 0
  · have h' := formed_turn (a := a).2 h
    have hn := turn_names (formed_sound h) a
    have hl : (ordG G).length = (ordG (turnG G a)).length := by
      have := congrArg List.length hn
      simpa [namesG] using this
    have : validF (turnG G a) = validF G := by
      unfold validF
      rw [if_neg (show ¬ formedF (turnG G a) ≠ 0 by simp [h']), if_neg (show ¬ formedF G ≠ 0 by simp [h]), ← hl, turn_len]
    rw [this]
    exact ⟨Iff.rfl, Iff.rfl⟩
  · have h' : formedF (turnG G a) ≠ 0 := fun e => h (formed_turn.1 e)
    have e1 : validF G = formedF G := by unfold validF; rw [if_pos h]
    have e2 : validF (turnG G a) = formedF (turnG G a) := by unfold validF; rw [if_pos h']
    rw [e1, e2]
    exact ⟨⟨fun k => absurd k h', fun k => absurd k h⟩, ⟨fun k => absurd k (formed_not14 _), fun k => absurd k (formed_not14 _)⟩⟩

/-- not all nodes listed: there is a cycle -/
theorem cycle_some {G : Gr} (hs : Sound G) (h : (ordG G).length < G.length) : cycL G ≠ [] := by
  have hfree := ordG_full G
  have hnx : ∀ k, k < G.length ∧ k ∉ ordG G → ∃ m ∈ ab G k, m < G.length ∧ m ∉ ordG G := by
    rintro k ⟨h1, h2⟩
    refine Classical.byContradiction fun hno => ?_
    have : k ∈ freeG G (ordG G) := mem_freeG.2 ⟨h1, h2, fun m hm => Classical.byContradiction fun hmo => hno ⟨m, hm, (hs.ab_lt hm).1, hmo⟩⟩
    rw [hfree] at this; cases this
  obtain ⟨k0, hk0, hk0'⟩ : ∃ k0, k0 < G.length ∧ k0 ∉ ordG G := by
    refine Classical.byContradiction fun hno => ?_
    have := nodup_le (ordG G) (List.range G.length) List.nodup_range (fun q hq => Classical.byContradiction fun hq' => hno ⟨q, List.mem_range.1 hq, hq'⟩)
    simp at this
    omega
  obtain ⟨it, hit⟩ : ∃ it : Nat → Nat, (∀ j, it j < G.length ∧ it j ∉ ordG G) ∧ ∀ j, it (j + 1) ∈ ab G (it j) := by
    let st : Nat → { k : Nat // k < G.length ∧ k ∉ ordG G } := fun j => Nat.rec ⟨k0, hk0, hk0'⟩ (fun _ x => ⟨(hnx x.1 x.2).choose, (hnx x.1 x.2).choose_spec.2⟩) j
    exact ⟨fun j => (st j).1, fun j => (st j).2, fun j => (hnx (st j).1 (st j).2).choose_spec.1⟩
  have hw : ∀ i d, Walk (ab G) (it i) d (it (i + d)) := by
    intro i d
    induction d with
    | zero => exact .here
    | succ d ih => exact .step ih (hit.2 (i + d))
  obtain ⟨i, j, hij, e⟩ : ∃ i j, i < j ∧ it i = it j := by
    refine Classical.byContradiction fun hno => ?_
    have hnd : ((List.range (G.length + 1)).map it).Nodup := by
      rw [List.Nodup, List.pairwise_map]
      exact List.pairwise_lt_range.imp fun hlt e => hno ⟨_, _, hlt, e⟩
    have := nodup_le (List.range G.length) _ hnd (fun q hq => by
      obtain ⟨j, _, rfl⟩ := List.mem_map.1 hq
      exact List.mem_range.2 (hit.1 j).1)
    simp at this
    omega
  have h1 : it i ∈ cycL G := mem_cycL.2 ⟨(hit.1 i).1, (cyc_walk hs).2 ⟨j - i, by omega, by
    have := hw i (j - i)
    rw [show i + (j - i) = j by omega, ← e] at this
    exact this⟩⟩
  exact List.ne_nil_of_mem h1

theorem pathC_facts {G : Gr} (hs : Sound G) (s : Nat) : ∀ (m i : Nat), distF (be G) G.length s i = m + 1 → i < G.length →
    ∃ ks : List Nat, pathC G (distF (be G) G.length s) (m + 1) i = ks.map (idA G) ∧ ks.length = m + 1 ∧ ks[0]? = some i ∧ (∀ j k, ks[j]? = some k → distF (be G) G.length s k + j = m + 1 ∧ k < G.length) ∧ ∀ j a b, ks[j]? = some a → ks[j + 1]? = some b → b ∈ ab G a := by
  intro m
  induction m with
  | zero =>
    intro i hi hlt
    refine ⟨[i], rfl, rfl, rfl, fun j k hk => ?_, fun j a b _ hb => by simp at hb⟩
    cases j with
    | zero => simp at hk; subst hk; exact ⟨hi, hlt⟩
    | succ j => simp at hk
  | succ m ih =>
    intro i hi hlt
    obtain ⟨k, h1, h2, h3⟩ := nextC_some hs hi (by omega)
    obtain ⟨ks, a1, a2, a3, a4, a5⟩ := ih k h2 h3
    have hk : k ∈ ab G i := (List.mem_filter.1 (firstF_mem h1).1).1
    refine ⟨i :: ks, by rw [pathC_more (by omega) h1, a1]; rfl, by simp [a2], rfl, fun j x hx => ?_, fun j a b ha hb => ?_⟩
    · cases j with
      | zero => simp at hx; subst hx; exact ⟨hi, hlt⟩
      | succ j =>
        have := a4 j x (by simpa using hx)
        exact ⟨by omega, this.2⟩
    · cases j with
      | zero =>
        rw [List.getElem?_cons_zero] at ha
        rw [List.getElem?_cons_succ] at hb
        injection ha with ha
        subst ha
        rw [a3] at hb
        injection hb with hb
        subst hb
        exact hk
      | succ j => exact a5 j a b (by simpa using ha) (by simpa using hb)

/-- names that are a cycle -/
def CycB (G : Gr) (c : List Bs) : Prop := c ≠ [] ∧ ∀ i b, c[i]? = some b → b ∈ idsG G ∧ b ∉ c.take i ∧ ∀ n, c[(i + 1) % c.length]? = some n → n ∈ needA G (posG G b)
theorem cycle_is {G : Gr} (hv : validF G = 14) : CycB G (cycleF G) := by
  have hf : formedF G = 0 := by
    unfold validF at hv
    by_cases h : formedF G = 0
    · exact h
    · rw [if_pos h] at hv; exact absurd hv (formed_not14 G)
  have hs := formed_sound hf
  have hlt : (ordG G).length < G.length := by
    unfold validF at hv
    rw [if_neg (by simp [hf])] at hv
    by_cases h : (ordG G).length < G.length
    · exact h
    · rw [if_neg h] at hv; cases hv
  obtain ⟨s, h1, h2, _⟩ := firstF_some (idA G) (cycle_some hs hlt)
  have h3 := mem_cycL.1 h2
  obtain ⟨m, hm⟩ : ∃ m, distF (be G) G.length s s = m + 1 := ⟨_, (Nat.sub_add_cancel h3.2).symm⟩
  obtain ⟨ks, a1, a2, a3, a4, a5⟩ := pathC_facts hs s m s hm h3.1
  have hc : cycleF G = ks.map (idA G) := by
    unfold cycleF
    rw [if_neg (by simp [hf]), cycF_at h1, hm, a1]
  rw [hc]
  refine ⟨fun e => ?_, fun i b hb => ?_⟩
  · have := congrArg List.length e
    simp [a2] at this
  · rw [List.getElem?_map] at hb
    cases hk : ks[i]? with
    | none => rw [hk] at hb; cases hb
    | some k =>
      rw [hk] at hb
      simp only [Option.map_some, Option.some.injEq] at hb
      subst hb
      have hki := a4 i k hk
      have hil : i < ks.length := (List.getElem?_eq_some_iff.1 hk).1
      refine ⟨idA_mem hki.2, fun hin => ?_, fun n hn => ?_⟩
      · rw [← List.map_take] at hin
        obtain ⟨x, hx, e⟩ := List.mem_map.1 hin
        obtain ⟨j, hj, rfl⟩ := List.getElem_of_mem hx
        have hj1 : j < i := by rw [List.length_take] at hj; omega
        have hjx : ks[j]? = some (ks.take i)[j] := by rw [List.getElem_take, List.getElem?_eq_getElem (by omega)]
        have h5 := a4 j _ hjx
        have h6 := idA_inj hs.nodup h5.2 hki.2 e
        rw [h6] at h5
        omega
      · rw [posG_id hs.nodup hki.2]
        rw [List.length_map, List.getElem?_map] at hn
        cases hq : ks[(i + 1) % ks.length]? with
        | none => rw [hq] at hn; cases hn
        | some q =>
          rw [hq] at hn
          simp only [Option.map_some, Option.some.injEq] at hn
          subst hn
          refine need_of_ab hs ?_
          by_cases he : i + 1 < ks.length
          · rw [Nat.mod_eq_of_lt he] at hq
            exact a5 i k q hk hq
          · have hie : i + 1 = ks.length := by omega
            rw [hie, Nat.mod_self, a3] at hq
            injection hq with hq
            subst hq
            have hd1 : distF (be G) G.length s k = 1 := by omega
            rcases distF_is (be_in G) s k with ⟨h7, _⟩ | ⟨_, h7, _⟩
            · omega
            · rw [hd1] at h7
              obtain ⟨z, hz, hkz⟩ := h7.succ
              have := hz.zero
              subst this
              exact (mem_be hs).1 hkz
theorem cycle_none {G : Gr} (hv : validF G ≠ 14) : cycleF G = [] := by
  unfold cycleF
  by_cases hf : formedF G = 0
  · have hs := formed_sound hf
    rw [if_neg (by simp [hf])]
    have hfull : (ordG G).length = G.length := by
      unfold validF at hv
      rw [if_neg (by simp [hf])] at hv
      have := (ordG_listed G).len
      by_cases h : (ordG G).length < G.length
      · rw [if_pos h] at hv; exact absurd rfl hv
      · omega
    have : cycL G = [] := List.eq_nil_iff_forall_not_mem.2 fun k hk => by
      have h3 := mem_cycL.1 hk
      exact listed_no_cycle hs (ord_all hfull h3.1) h3.2
    unfold cycF cycS
    rw [this, firstF_nil]
  · rw [if_pos hf]
end Go.Proofs.YtfegmmafcopbpaaGreatDoor
