/- Maps that a call made, keyed by strings or numbers: what each key holds; look-up and store. No program in sight. -/
import Derived.Test.YtngbjnjkcniabaaGreatDoorBase
import Derived.MapKept
namespace Go.Proofs.YtngbjnjkcniabaaGreatDoor
open Go.RowKit Go.MapKept

/-- the block bm is a map; key K a holds f a -/
def MapF {α : Type} (d : TypeDesc) (K : α → Value) (w : World) (bm : Nat) (f : α → Option Value) : Prop :=
  ∃ es clock, w.heap[bm]? = some (.map es clock) ∧ (∀ x ∈ es.toList, IsKey d x.key) ∧ es.toList.Pairwise (fun x y => x.key ≠ y.key) ∧
    ∀ a, (∀ v, f a = some v → ∃ e ∈ es.toList, e.key = K a ∧ e.val = v) ∧ (f a = none → ∀ e ∈ es.toList, e.key ≠ K a)

theorem MapF.of_block {α : Type} {d : TypeDesc} {K : α → Value} {w w1 : World} {bm : Nat} {f : α → Option Value} (h : MapF d K w bm f) (hb : w1.heap[bm]? = w.heap[bm]?) : MapF d K w1 bm f := by
  obtain ⟨es, c, h1, h2⟩ := h
  exact ⟨es, c, by rw [hb]; exact h1, h2⟩
theorem MapF.lt {α : Type} {d : TypeDesc} {K : α → Value} {w : World} {bm : Nat} {f : α → Option Value} (h : MapF d K w bm f) : bm < w.heap.size := by
  obtain ⟨es, c, h1, h2⟩ := h
  exact (Array.getElem?_eq_some_iff.1 h1).1
theorem MapF.below {α : Type} {d : TypeDesc} {K : α → Value} {w w1 : World} {bm : Nat} {f : α → Option Value} (h : MapF d K w bm f) (hb : Below w.heap.size w w1) : MapF d K w1 bm f := h.of_block (hb.block _ h.lt)
theorem MapF.wrote {α : Type} {d : TypeDesc} {K : α → Value} {w w1 : World} {b bm : Nat} {o : Obj} {f : α → Option Value} (h : MapF d K w bm f) (hb : Wrote b o w w1) (hne : bm ≠ b) : MapF d K w1 bm f := h.of_block (hb.block _ hne)
theorem MapF.congr {α : Type} {d : TypeDesc} {K : α → Value} {w : World} {bm : Nat} {f g : α → Option Value} (h : MapF d K w bm f) (e : ∀ a, g a = f a) : MapF d K w bm g := by
  rwa [show g = f from funext e]

theorem mapF_new {α : Type} {d : TypeDesc} {K : α → Value} {w : World} {g : Nat} (hg : g = w.heap.size) (c : Nat) : MapF d K (w.alloc (.map #[] c)) g (fun _ => none) := by
  refine ⟨#[], c, hp_new hg, ?_, List.Pairwise.nil, fun a => ⟨?_, ?_⟩⟩
  · intro x hx; cases hx
  · intro v h; cases h
  · intro _ e he; cases he

theorem MapF.find {α : Type} {d : TypeDesc} {K : α → Value} {f : α → Option Value} {es : List MapEntry} (h2 : ∀ x ∈ es, IsKey d x.key) (h3 : es.Pairwise (fun x y => x.key ≠ y.key))
    {a : α} (hk : IsKey d (K a)) (h4 : (∀ v, f a = some v → ∃ e ∈ es, e.key = K a ∧ e.val = v) ∧ (f a = none → ∀ e ∈ es, e.key ≠ K a)) :
    ∃ r, Instr.findNow d (K a) es 0 = some r ∧ r.map (·.2) = f a ∧ (r = none → ∀ x ∈ es, x.key ≠ K a) ∧ ∀ j v, r = some (j, v) → ∃ e, es[j]? = some e ∧ e.key = K a := by
  rcases findNow_spec hk es 0 h2 with ⟨h5, h6⟩ | ⟨j, e, h5, h6, h7⟩
  · refine ⟨none, h5, ?_, fun _ => h6, fun j v h => by cases h⟩
    cases hf : f a with
    | none => rfl
    | some v =>
      obtain ⟨e, he, h8, _⟩ := h4.1 v hf
      exact absurd h8 (h6 e he)
  · refine ⟨_, h5, ?_, (fun h => by cases h), ?_⟩
    · cases hf : f a with
      | none => exact absurd h7 (h4.2 hf e (List.mem_of_getElem? h6))
      | some v =>
        obtain ⟨e', he, h8, h9⟩ := h4.1 v hf
        obtain ⟨j', hj'⟩ := List.getElem?_of_mem he
        rw [List.pairwise_iff_getElem] at h3
        obtain ⟨l1, e1⟩ := List.getElem?_eq_some_iff.1 h6
        obtain ⟨l2, e2⟩ := List.getElem?_eq_some_iff.1 hj'
        have : j = j' := by
          rcases Nat.lt_trichotomy j j' with h | h | h
          · exact absurd (by rw [e1, e2, h7, h8]) (h3 j j' l1 l2 h)
          · exact h
          · exact absurd (by rw [e1, e2, h7, h8]) (h3 j' j l2 l1 h)
        subst this
        rw [h6] at hj'
        injection hj' with hj'
        simp [hj', h9]
    · intro j' v h
      injection h with h
      injection h with h h'
      exact ⟨e, by rw [← h, Nat.zero_add]; exact h6, h7⟩

section
variable {α : Type} {P : Program} {d : TypeDesc} {K : α → Value} {w : World} {bm : Nat} {f : α → Option Value} {mty kt et : TypeId}

theorem MapF.lookup (h : MapF d K w bm f) (hm : P.underlying mty = some (.map kt et)) (hd : P.underlying kt = some d) {z : Value} (hz : (zeroValue et).run P w = .ok z w) {a : α} (hk : IsKey d (K a)) (c : Bool) :
    (Instr.lookup mty (.map (some bm)) (K a) c).run P w = .ok (if c then .tuple #[(f a).getD z, .bool (f a).isSome] else (f a).getD z) w := by
  obtain ⟨es, clock, hb, h2, h3, h4⟩ := h
  obtain ⟨r, hr, he, _⟩ := MapF.find h2 h3 hk (h4 a)
  unfold Instr.lookup
  simp only [Sem.run_bind, run_underlying hm, Result.andThen_ok, MapKept.run_getObj_map hb, Sem.run_pure, run_checkKey hd hk, run_findKey hd hr]
  cases r with
  | none =>
    rw [← he]
    simp only [Sem.run_bind, hz, Result.andThen_ok, Sem.run_pure]
    cases c <;> rfl
  | some p =>
    rw [← he]
    cases c <;> rfl

theorem MapF.update (h : MapF d K w bm f) (hm : P.underlying mty = some (.map kt et)) (hd : P.underlying kt = some d) {a : α} (hk : IsKey d (K a)) (hinj : ∀ b, K b = K a → b = a) (v : Value) {f' : α → Option Value} (h1 : f' a = some v) (h1' : ∀ b, b ≠ a → f' b = f b) :
    ∃ o w', (Instr.mapUpdate mty (.map (some bm)) (K a) v).run P w = .ok () w' ∧ Wrote bm o w w' ∧ MapF d K w' bm f' := by
  obtain ⟨es, clock, hb, h2, h3, h4⟩ := h
  obtain ⟨r, hr, he, hno, hhit⟩ := MapF.find h2 h3 hk (h4 a)
  have hlt := (Array.getElem?_eq_some_iff.1 hb).1
  have hW : ∀ o, Wrote bm o w { w with heap := w.heap.setIfInBounds bm o } := fun o => by
    refine ⟨rfl, rfl, rfl, by simp, by simp [hlt], fun k hk => ?_⟩
    simp only [Array.getElem?_setIfInBounds]
    rw [if_neg (by omega)]
  cases r with
  | none =>
    refine ⟨_, _, ?_, hW (.map (es.push { key := K a, val := v, born := clock }) (clock + 1)), _, _, (hW _).at_, ?_, ?_, ?_⟩
    · simp [Instr.mapUpdate, run_underlying hm, MapKept.run_getObj_map hb, run_checkKey hd hk, run_findKey hd hr, MapKept.run_setObj_map _ hb, Result.andThen]
    · intro x hx
      simp only [Array.toList_push, List.mem_append, List.mem_singleton] at hx
      rcases hx with hx | rfl
      · exact h2 x hx
      · exact hk
    · rw [Array.toList_push, List.pairwise_append]
      exact ⟨h3, by simp, fun x hx y hy => by simp only [List.mem_singleton] at hy; subst hy; exact hno rfl x hx⟩
    · intro b
      by_cases hba : b = a
      · subst hba
        refine ⟨fun u hu => ?_, fun hn => by rw [h1] at hn; cases hn⟩
        rw [h1] at hu
        injection hu with hu
        exact ⟨{ key := K b, val := v, born := clock }, by simp, rfl, hu⟩
      · rw [h1' b hba]
        refine ⟨fun u hu => ?_, fun hn e he => ?_⟩
        · obtain ⟨e, he, h5⟩ := (h4 b).1 u hu
          exact ⟨e, by simp [he], h5⟩
        · simp only [Array.toList_push, List.mem_append, List.mem_singleton] at he
          rcases he with he | rfl
          · exact (h4 b).2 hn e he
          · exact fun q => hba (hinj b q.symm)
  | some p =>
    obtain ⟨j, u0⟩ := p
    obtain ⟨e, hj, hek⟩ := hhit j u0 rfl
    have hj' : es[j]? = some e := by simpa using hj
    have hjl : j < es.size := (Array.getElem?_eq_some_iff.1 hj').1
    have hkey : ∀ e', es[j]? = some e' → ({ e' with key := K a, val := v } : MapEntry).key = e'.key := fun e' he' => by rw [hj'] at he'; cases he'; exact hek.symm
    have hat : ∀ i : Nat, (es.modify j fun e => { e with key := K a, val := v }).toList[i]? = if j = i then (es.toList[i]?).map fun e => { e with key := K a, val := v } else es.toList[i]? := by
      intro i
      rw [Array.getElem?_toList, Array.getElem?_modify]
      simp
    have hks := modify_keys (es := es) j (fun e => { e with key := K a, val := v }) hkey
    refine ⟨_, _, ?_, hW (.map (es.modify j fun e => { e with key := K a, val := v }) clock), _, _, (hW _).at_, isKey_modify h2 _ _ hkey, ?_, ?_⟩
    · simp [Instr.mapUpdate, run_underlying hm, MapKept.run_getObj_map hb, run_checkKey hd hk, run_findKey hd hr, hj', hek, run_keyThatStays hk, MapKept.run_setObj_map _ hb, Result.andThen]
    · have h3' : (es.toList.map (·.key)).Pairwise (· ≠ ·) := List.pairwise_map.2 h3
      rw [← hks] at h3'
      exact List.pairwise_map.1 h3'
    · intro b
      by_cases hba : b = a
      · subst hba
        refine ⟨fun u hu => ?_, fun hn => by rw [h1] at hn; cases hn⟩
        rw [h1] at hu
        injection hu with hu
        exact ⟨{ e with key := K b, val := v }, List.mem_of_getElem? (i := j) (by rw [hat, if_pos rfl, hj]; rfl), rfl, hu⟩
      · rw [h1' b hba]
        have hbk : K b ≠ K a := fun q => hba (hinj b q)
        refine ⟨fun u hu => ?_, fun hn e' he' => ?_⟩
        · obtain ⟨e', he', h5, h6⟩ := (h4 b).1 u hu
          obtain ⟨i, hi⟩ := List.getElem?_of_mem he'
          have hij : j ≠ i := by
            rintro rfl
            rw [hj] at hi
            injection hi with hi
            subst hi
            exact hbk (h5.symm.trans hek)
          exact ⟨e', List.mem_of_getElem? (i := i) (by rw [hat, if_neg hij]; exact hi), h5, h6⟩
        · have : e'.key ∈ es.toList.map (·.key) := by rw [← hks]; exact List.mem_map.2 ⟨e', he', rfl⟩
          obtain ⟨x, hx, hxe⟩ := List.mem_map.1 this
          rw [← hxe]
          exact (h4 b).2 hn x hx

variable {ops : Array Oper} {rest : List Oper} {o : Oper} {ac : Act} {Q : Exit → Act → World → Prop}

theorem wpList_lookupF (hg : o.guard = none) (m x : Operand) (c : Bool) (hop : o.op = Op.lookup mty m x c) (h : MapF d K w bm f) (hv : ac.eval m = .map (some bm)) (hm : P.underlying mty = some (.map kt et)) (hd : P.underlying kt = some d) {z : Value} (hz : (zeroValue et).run P w = .ok z w) (a : α) (hx : ac.eval x = K a) (hk : IsKey d (K a))
    (hK : wpList P ops Q rest (ac.put o.dst (if c then .tuple #[(f a).getD z, .bool (f a).isSome] else (f a).getD z)) w) : wpList P ops Q (o :: rest) ac w := by
  refine wpList_plain hg fun K' hK' => ?_
  unfold Oper.wp
  simp [execOp, hop, hv, hx, h.lookup hm hd hz hk c, Result.andThen]
  exact hK' _ _ (by simpa using hK)

theorem wpList_updateF (hg : o.guard = none) (m x y : Operand) (hop : o.op = Op.mapUpdate mty m x y) (h : MapF d K w bm f) (hv : ac.eval m = .map (some bm)) (hm : P.underlying mty = some (.map kt et)) (hd : P.underlying kt = some d) (a : α) (hx : ac.eval x = K a) (hk : IsKey d (K a)) (hinj : ∀ b, K b = K a → b = a) (v : Value) (hy : ac.eval y = v) (f' : α → Option Value) (h1 : f' a = some v) (h1' : ∀ b, b ≠ a → f' b = f b)
    (hK : ∀ o' w', Wrote bm o' w w' → MapF d K w' bm f' → wpList P ops Q rest (ac.put o.dst undef) w') : wpList P ops Q (o :: rest) ac w := by
  refine wpList_plain hg fun K' hK' => ?_
  obtain ⟨o', w', hrun, h2, h3⟩ := h.update hm hd hk hinj v h1 h1'
  unfold Oper.wp
  simp [execOp, hop, hv, hx, hy, hrun, Result.andThen]
  exact hK' _ _ (hK o' w' h2 h3)

theorem wpList_insertF (hg : o.guard = none) (m x y : Operand) (hop : o.op = Op.insert mty m x y) (h : MapF d K w bm f) (hv : ac.eval m = .map (some bm)) (hm : P.underlying mty = some (.map kt et)) (hd : P.underlying kt = some d) (a : α) (hx : ac.eval x = K a) (hk : IsKey d (K a)) (hinj : ∀ b, K b = K a → b = a) (v : Value) (hy : ac.eval y = v) (f' : α → Option Value) (h1 : f' a = some v) (h1' : ∀ b, b ≠ a → f' b = f b)
    (hK : ∀ o' w', Wrote bm o' w w' → MapF d K w' bm f' → wpList P ops Q rest (ac.put o.dst undef) w') : wpList P ops Q (o :: rest) ac w := by
  refine wpList_plain hg fun K' hK' => ?_
  obtain ⟨o', w', hrun, h2, h3⟩ := h.update hm hd hk hinj v h1 h1'
  unfold Oper.wp
  simp [execOp, hop, hv, hx, hy, hrun, Result.andThen]
  exact hK' _ _ (hK o' w' h2 h3)
end
end Go.Proofs.YtngbjnjkcniabaaGreatDoor
