/- A map from pairs of ints to bools that the call made: which keys it holds; look-up and insertion. -/
import Derived.Test.YtnmbabaihfdljaaAny
import Derived.Maps.OwnOps
import Derived.MapKept
namespace Go.Proofs.Ytnmbabaihfdljaa
open Go.RowKit

theorem ownsRow_wrote2 {w w1 : World} {base b : Nat} {o : Obj} {e : TypeId} {size : Nat} {v : Value} {n : Nat} {xs : List Value} (h : w.ownsRow base e size v n xs) (hw : Wrote b o w w1) (hb : v.ownBlock ≠ some b) : w1.ownsRow base e size v n xs :=
  h.kept (row := some b) ⟨hw.os, hw.tape, hw.output, by rw [hw.size]; exact Nat.le_refl _, fun k _ hk => hw.block k (by rintro rfl; exact hk rfl)⟩ (.inr hb)

theorem ck55 (e : Bool) (a b : Int) (w : World) : (Instr.checkKey e 10000 55 (.agg #[.int .i64 a, .int .i64 b])).run Try.prog w = .ok () w := by kernel_rfl
theorem eq3 (a b : Int) (w : World) : (Op.equalIn 9999 3 (.int .i64 a) (.int .i64 b)).run Try.prog w = .ok (a == b) w := by kernel_rfl
theorem eq55 (a b c d : Int) (w : World) : (Op.equal 55 (.agg #[.int .i64 a, .int .i64 b]) (.agg #[.int .i64 c, .int .i64 d])).run Try.prog w = .ok (a == c && b == d) w := by
  unfold Op.equal
  rw [show Op.maxDepth = 9999 + 1 from rfl]
  unfold Op.equalIn
  simp [go_sem, List.range', eq3]
  cases h1 : (a == c) <;> cases h2 : (b == d) <;> simp_all [go_sem]

abbrev pairV (p : Nat × Nat) : Value := .agg #[.int .i64 (p.1 : Nat), .int .i64 (p.2 : Nat)]

/-- the block bm is a map that holds just the keys of S, each with true -/
def MSet (w : World) (bm : Nat) (S : List (Nat × Nat)) : Prop :=
  ∃ es clock, w.heap[bm]? = some (.map es clock) ∧ es.toList.map (fun e => (e.key, e.val)) = S.map fun p => (pairV p, Value.bool true)

theorem find55 (p : Nat × Nat) (w : World) : ∀ (es : List MapEntry) (S : List (Nat × Nat)) (i : Nat), es.map (fun e => (e.key, e.val)) = S.map (fun p => (pairV p, Value.bool true)) →
    ∃ r, (Instr.findAsking 55 (pairV p) es i).run Try.prog w = .ok r w ∧ (if p ∈ S then ∃ j, r = some (j, .bool true) else r = none) := by
  intro es
  induction es with
  | nil =>
    intro S i h
    cases S with
    | nil => exact ⟨none, rfl, by simp⟩
    | cons q S => simp at h
  | cons e es ih =>
    intro S i h
    cases S with
    | nil => simp at h
    | cons q S =>
      simp only [List.map_cons, List.cons.injEq, Prod.mk.injEq] at h
      obtain ⟨⟨hk, hv⟩, ht⟩ := h
      obtain ⟨r, hr, hs⟩ := ih S (i + 1) ht
      have he := eq55 p.1 p.2 q.1 q.2 w
      by_cases hpq : p = q
      · subst hpq
        refine ⟨some (i, e.val), ?_, ?_⟩
        · simp only [Instr.findAsking, hk, pairV, Sem.run_bind, he]
          simp [Result.andThen]
        · rw [if_pos (by simp)]; exact ⟨i, by rw [hv]⟩
      · refine ⟨r, ?_, ?_⟩
        · have hb : (((p.1 : Nat) : Int) == ((q.1 : Nat) : Int) && ((p.2 : Nat) : Int) == ((q.2 : Nat) : Int)) = false := by
            cases hx : (((p.1 : Nat) : Int) == ((q.1 : Nat) : Int) && ((p.2 : Nat) : Int) == ((q.2 : Nat) : Int)) with
            | false => rfl
            | true =>
              simp only [Bool.and_eq_true, beq_iff_eq] at hx
              exact (hpq (Prod.ext (by omega) (by omega))).elim
          rw [hb] at he
          simp only [Instr.findAsking, hk, pairV, Sem.run_bind, he]
          simp [Result.andThen]
          exact hr
        · by_cases hm : p ∈ S
          · rw [if_pos hm] at hs; rw [if_pos (by simp [hm])]; exact hs
          · rw [if_neg hm] at hs; rw [if_neg (by simp [hm, hpq])]; exact hs

theorem findKey55 (p : Nat × Nat) (w : World) (es : List MapEntry) (S : List (Nat × Nat)) (h : es.map (fun e => (e.key, e.val)) = S.map (fun p => (pairV p, Value.bool true))) :
    ∃ r, (Instr.findKey 55 (pairV p) es).run Try.prog w = .ok r w ∧ (if p ∈ S then ∃ j, r = some (j, .bool true) else r = none) := by
  cases es with
  | nil =>
    cases S with
    | nil => exact ⟨none, by kernel_rfl, by simp⟩
    | cons q S => simp at h
  | cons e es =>
    obtain ⟨r, hr, hs⟩ := find55 p w (e :: es) S 0 h
    refine ⟨r, ?_, hs⟩
    have hn : Instr.findNow (.array 2 3) (pairV p) (e :: es) 0 = none := by
      simp [Instr.findNow, Instr.sameNow]
    unfold Instr.findKey
    simp only [Sem.run_bind, run_underlying Try.underlying55, Result.andThen_ok, hn]
    exact hr

theorem run_lookup55 (p : Nat × Nat) (w : World) (bm : Nat) (S : List (Nat × Nat)) (h : MSet w bm S) :
    (Instr.lookup 56 (.map (some bm)) (pairV p) false).run Try.prog w = .ok (.bool (decide (p ∈ S))) w := by
  obtain ⟨es, clock, hb, hm⟩ := h
  obtain ⟨r, hr, hs⟩ := findKey55 p w es.toList S hm
  have hz : (zeroValue 4).run Try.prog w = .ok (.bool false) w := by kernel_rfl
  unfold Instr.lookup
  simp only [Sem.run_bind, run_underlying Try.underlying56, Result.andThen_ok, MapKept.run_getObj_map hb, Sem.run_pure, ck55, hr]
  by_cases hp : p ∈ S
  · rw [if_pos hp] at hs
    obtain ⟨j, rfl⟩ := hs
    simp [hp]
  · rw [if_neg hp] at hs
    subst hs
    simp [hp, hz]

theorem run_update55 (p : Nat × Nat) (w : World) (bm : Nat) (S : List (Nat × Nat)) (h : MSet w bm S) (hp : ¬ p ∈ S) :
    ∃ o w', (Instr.mapUpdate 56 (.map (some bm)) (pairV p) (.bool true)).run Try.prog w = .ok () w' ∧ Wrote bm o w w' ∧ MSet w' bm (S ++ [p]) := by
  obtain ⟨es, clock, hb, hm⟩ := h
  obtain ⟨r, hr, hs⟩ := findKey55 p w es.toList S hm
  rw [if_neg hp] at hs
  subst hs
  have hlt := (Array.getElem?_eq_some_iff.1 hb).1
  have hW : Wrote bm (.map (es.push { key := pairV p, val := .bool true, born := clock }) (clock + 1)) w { w with heap := w.heap.setIfInBounds bm (.map (es.push { key := pairV p, val := .bool true, born := clock }) (clock + 1)) } := by
    refine ⟨rfl, rfl, rfl, by simp, by simp [hlt], fun k hk => ?_⟩
    simp only [Array.getElem?_setIfInBounds]
    rw [if_neg (by omega)]
  refine ⟨_, _, ?_, hW, _, _, hW.at_, ?_⟩
  · unfold Instr.mapUpdate
    simp only [Sem.run_bind, run_underlying Try.underlying56, Result.andThen_ok, MapKept.run_getObj_map hb, ck55, hr]
    rw [MapKept.run_setObj_map _ hb]
  · simp [hm]

section
variable {ops : Array Oper} {rest : List Oper} {o : Oper} {a : Act} {w : World} {Q : Exit → Act → World → Prop}

theorem wpList_lookup55 (hg : o.guard = none) (m x : Operand) (hop : o.op = Op.lookup 56 m x false) (bm : Nat) (hm : a.eval m = .map (some bm)) (p : Nat × Nat) (hx : a.eval x = pairV p) (S : List (Nat × Nat)) (h : MSet w bm S)
    (hK : wpList Try.prog ops Q rest (a.put o.dst (.bool (decide (p ∈ S)))) w) : wpList Try.prog ops Q (o :: rest) a w := by
  refine wpList_plain hg fun K' hK' => ?_
  unfold Oper.wp
  simp [execOp, hop, hm, hx, run_lookup55 p w bm S h, Result.andThen]
  exact hK' _ _ (by simpa using hK)

theorem wpList_update55 (hg : o.guard = none) (m x y : Operand) (hop : o.op = Op.mapUpdate 56 m x y) (bm : Nat) (hm : a.eval m = .map (some bm)) (p : Nat × Nat) (hx : a.eval x = pairV p) (hy : a.eval y = .bool true) (S : List (Nat × Nat)) (h : MSet w bm S) (hp : ¬ p ∈ S)
    (hK : ∀ o' w', Wrote bm o' w w' → MSet w' bm (S ++ [p]) → wpList Try.prog ops Q rest (a.put o.dst undef) w') : wpList Try.prog ops Q (o :: rest) a w := by
  refine wpList_plain hg fun K' hK' => ?_
  obtain ⟨o', w', hrun, h1, h2⟩ := run_update55 p w bm S h hp
  unfold Oper.wp
  simp [execOp, hop, hm, hx, hy, hrun, Result.andThen]
  exact hK' _ _ (hK o' w' h1 h2)

theorem wpList_insert55 (hg : o.guard = none) (m x y : Operand) (hop : o.op = Op.insert 56 m x y) (bm : Nat) (hm : a.eval m = .map (some bm)) (p : Nat × Nat) (hx : a.eval x = pairV p) (hy : a.eval y = .bool true) (S : List (Nat × Nat)) (h : MSet w bm S) (hp : ¬ p ∈ S)
    (hK : ∀ o' w', Wrote bm o' w w' → MSet w' bm (S ++ [p]) → wpList Try.prog ops Q rest (a.put o.dst undef) w') : wpList Try.prog ops Q (o :: rest) a w := by
  refine wpList_plain hg fun K' hK' => ?_
  obtain ⟨o', w', hrun, h1, h2⟩ := run_update55 p w bm S h hp
  unfold Oper.wp
  simp [execOp, hop, hm, hx, hy, hrun, Result.andThen]
  exact hK' _ _ (hK o' w' h1 h2)
end
end Go.Proofs.Ytnmbabaihfdljaa
