/- How many tests an execution lists, how long the keys are that it saves. -/
import Derived.Test.YtghahghbahcpfaaGreatDoorVo4
import Derived.Test.YtghahghbahcpfaaGreatDoorVp1
namespace Go.Proofs.YtghahghbahcpfaaGreatDoor

structure Bk (x : StM) : Prop where
  tl : x.tests.length ≤ 1000
  sk : ∀ e ∈ x.saves, e.key.size ≤ 10000
theorem Bk.of {x y : StM} (h : Bk x) (e1 : y.tests = x.tests) (e2 : y.saves = x.saves) : Bk y := ⟨by rw [e1]; exact h.tl, by rw [e2]; exact h.sk⟩
theorem Bk.setR {x : StM} (h : Bk x) (a : Nat) (r : List OutM) : Bk { x with acc := a, reads := r } := h.of rfl rfl
theorem Bk.setA {x : StM} (h : Bk x) (a : Nat) : Bk { x with acc := a } := h.of rfl rfl
theorem keyF_size {v : ViewM} (hB : VB v) (n : Int) : (keyF v n).size ≤ 10000 := by
  unfold keyF
  rw [List.getD_eq_getElem?_getD]
  cases h : v.keys[n.toNat]? with
  | none => exact Nat.zero_le _
  | some k => exact hB.keyN k (List.mem_of_getElem? h)
theorem bk_push {sv : List EntM} (h : ∀ e ∈ sv, e.key.size ≤ 10000) (k : ByteArray) (hk : k.size ≤ 10000) (b : Bool) : ∀ e ∈ (if b = true then sv else sv ++ [entK k]), e.key.size ≤ 10000 := by
  cases b with
  | true => exact h
  | false =>
    intro e he
    rcases List.mem_append.1 he with he | he
    · exact h e he
    · have he : e = entK k := List.mem_singleton.1 he
      rw [he, entK_key]
      exact hk
theorem Bk.setS {x : StM} (h : Bk x) (a : Nat) (sv : List EntM) (hs : ∀ e ∈ sv, e.key.size ≤ 10000) : Bk { x with acc := a, saves := sv } := ⟨h.tl, hs⟩
theorem Bk.take {v : ViewM} {x : StM} {s : StepM} (hB : VB v) (h : Bk x) : Bk (takeF v x s) := by
  by_cases h1 : s.op = 1
  · rw [takeF_one h1]
    cases fileF v s.name with
    | none => exact h
    | some f => exact h.setR _ _
  by_cases h2 : s.op = 2
  · rw [takeF_two h2]
    cases artF v s.name with
    | none => exact h
    | some f => exact h.setR _ _
  by_cases h3 : s.op = 3
  · rw [takeF_three h3]
    cases secF v s.name with
    | none => exact h
    | some f => exact h.setA _
  by_cases h4 : s.op = 4
  · rw [takeF_four h4]
    exact h.setS _ _ (bk_push h.sk _ (keyF_size hB _) _)
  · rw [takeF_rest h1 h2 h3 h4]
    exact h
theorem Bk.perform {v : ViewM} {x : StM} {s : StepM} (hB : VB v) (h : Bk x) : Bk (performF v x s).1 := by
  have ht : Bk (takeF v x s) := h.take hB
  by_cases h5 : s.op = 5
  · rw [performF_5 h5]; exact ht.of rfl rfl
  by_cases h6 : s.op = 6
  · rw [performF_6 h6]; exact ht.of rfl rfl
  by_cases h7 : s.op = 7
  · rw [performF_7 h7]; exact ht.of rfl rfl
  by_cases h8 : s.op = 8
  · rw [performF_8 h8]
    refine ⟨?_, ht.sk⟩
    show (testsF v s).length ≤ 1000
    unfold testsF
    rw [List.length_map]
    exact hB.tests
  by_cases h9 : s.op = 9
  · rw [performF_9 h9]; exact ht
  by_cases h11 : s.op = 11
  · rw [performF_11 h11]; exact ht.of rfl rfl
  · rw [performF_r h5 h6 h7 h8 h9 h11]; exact ht
theorem Bk.step {D : ByteArray → Bool} {j : JobM} {v : ViewM} {x : StM} {s : StepM} (hB : VB v) (h : Bk x) : Bk (stepF D j v x s).1 := by
  unfold stepF
  split
  · exact h
  split
  · exact h.of rfl rfl
  · exact (h.of (y := { x with time := addI x.time (takesF v x.saves s) }) rfl rfl).perform hB
theorem exec_bk (D : ByteArray → Bool) (j : JobM) (v : ViewM) (hB : VB v) : (execF D j v).tests.length ≤ 1000 ∧ ∀ e ∈ (execF D j v).saves, e.key.size ≤ 10000 := by
  have h := runF_ind D j v Bk j.steps (st0 j) (fun _ _ _ h => h.step hB) ⟨Nat.zero_le _, fun o h => absurd (show o ∈ ([] : List EntM) from h) List.not_mem_nil⟩
  unfold execF effectF
  generalize runF D j v (st0 j) j.steps = r at *
  exact ⟨h.tl, h.sk⟩
end Go.Proofs.YtghahghbahcpfaaGreatDoor
/- Plain laws of an execution: restored entries change only the time and what is saved. -/
namespace Go.Proofs.YtghahghbahcpfaaGreatDoor

def maxT : Int := 9223372036854775807
theorem maxT_nn : 0 ≤ maxT := by decide
theorem addI_nn {a b : Int} (ha : 0 ≤ a) (hb : 0 ≤ b) : addI a b = min (a + b) maxT := by
  unfold addI maxT
  exact Int.max_eq_right (by rw [Int.le_min]; constructor <;> omega)
theorem limI_nn (n : Int) : 0 ≤ limI n := Int.le_max_left ..
theorem timedF_nn (v : ViewM) (t : ByteArray) : 0 ≤ timedF v t := by
  unfold timedF
  split
  · omega
  · exact limI_nn _
theorem foldT_nn (v : ViewM) : ∀ (l : List ByteArray) (a : Int), 0 ≤ a → 0 ≤ l.foldl (fun a t => addI a (timedF v t)) a
  | [], _, h => h
  | t :: l, a, h => by
    rw [List.foldl_cons]
    refine foldT_nn v l _ ?_
    rw [addI_nn h (timedF_nn v t), Int.le_min]
    have := timedF_nn v t
    exact ⟨by omega, maxT_nn⟩
theorem takesF_nn (v : ViewM) (sv : List EntM) (s : StepM) : 0 ≤ takesF v sv s := by
  unfold takesF
  split
  · split <;> omega
  split
  · exact foldT_nn v _ _ (by omega)
  split
  · exact limI_nn _
  omega
def noC (v : ViewM) : ViewM := { v with caches := [] }
theorem refused_noC (D : ByteArray → Bool) (j : JobM) (v : ViewM) (s : StepM) : refusedF D j (noC v) s = refusedF D j v s := rfl
/-- a step that is not memo looks at neither time nor what is saved, nor at the caches -/
theorem perform_ts (v : ViewM) (x : StM) (t : Int) (sv : List EntM) (s : StepM) (h : s.op ≠ 4) :
    performF (noC v) { x with time := t, saves := sv } s = ({ (performF v x s).1 with time := t, saves := sv }, (performF v x s).2) := by
  have e1 : ∀ p, fileF (noC v) p = fileF v p := fun _ => rfl
  have e2 : ∀ p, artF (noC v) p = artF v p := fun _ => rfl
  have e3 : ∀ p, secF (noC v) p = secF v p := fun _ => rfl
  have e4 : testsF (noC v) s = testsF v s := rfl
  have e5 : badF (noC v) s = badF v s := rfl
  have e6 : (noC v).attempt = v.attempt := rfl
  have e7 : echoL (noC v) s = echoL v s := by unfold echoL; rw [e3]
  have ht : takeF (noC v) { x with time := t, saves := sv } s = { takeF v x s with time := t, saves := sv } := by
    by_cases h1 : s.op = 1
    · rw [takeF_one h1, takeF_one h1, e1]
      cases fileF v s.name <;> rfl
    by_cases h2 : s.op = 2
    · rw [takeF_two h2, takeF_two h2, e2]
      cases artF v s.name <;> rfl
    by_cases h3 : s.op = 3
    · rw [takeF_three h3, takeF_three h3, e3]
      cases secF v s.name <;> rfl
    · rw [takeF_rest h1 h2 h3 h, takeF_rest h1 h2 h3 h]
  by_cases h5 : s.op = 5
  · rw [performF_5 h5, performF_5 h5, ht]
  by_cases h6 : s.op = 6
  · rw [performF_6 h6, performF_6 h6, ht]
  by_cases h7 : s.op = 7
  · rw [performF_7 h7, performF_7 h7, ht, e7]
  by_cases h8 : s.op = 8
  · rw [performF_8 h8, performF_8 h8, ht, e4, e5]
  by_cases h9 : s.op = 9
  · rw [performF_9 h9, performF_9 h9, ht, e6]
  by_cases h11 : s.op = 11
  · rw [performF_11 h11, performF_11 h11, ht]
  · rw [performF_r h5 h6 h7 h8 h9 h11, performF_r h5 h6 h7 h8 h9 h11, ht]
def Ts (x y : StM) : Prop := y.saves = x.saves ∧ y.time = x.time
theorem Ts.refl (x : StM) : Ts x x := ⟨rfl, rfl⟩
theorem Ts.setR (x : StM) (a : Nat) (r : List OutM) : Ts x { x with acc := a, reads := r } := ⟨rfl, rfl⟩
theorem Ts.setA (x : StM) (a : Nat) : Ts x { x with acc := a } := ⟨rfl, rfl⟩
theorem Ts.take (v : ViewM) (x : StM) (s : StepM) (h4 : s.op ≠ 4) : Ts x (takeF v x s) := by
  by_cases h1 : s.op = 1
  · rw [takeF_one h1]
    cases fileF v s.name with
    | none => exact Ts.refl _
    | some f => exact Ts.setR _ _ _
  by_cases h2 : s.op = 2
  · rw [takeF_two h2]
    cases artF v s.name with
    | none => exact Ts.refl _
    | some f => exact Ts.setR _ _ _
  by_cases h3 : s.op = 3
  · rw [takeF_three h3]
    cases secF v s.name with
    | none => exact Ts.refl _
    | some f => exact Ts.setA _ _
  · rw [takeF_rest h1 h2 h3 h4]
    exact Ts.refl _
theorem Ts.outs {x y : StM} (h : Ts x y) (o : List OutM) : Ts x { y with outs := o } := h
theorem Ts.log {x y : StM} (h : Ts x y) (o : List UInt8) : Ts x { y with log := o } := h
theorem Ts.tests {x y : StM} (h : Ts x y) (o : List TstM) : Ts x { y with tests := o } := h
theorem Ts.child {x y : StM} (h : Ts x y) (o : ByteArray) : Ts x { y with child := o } := h
theorem perform_st (v : ViewM) (x : StM) (s : StepM) (h4 : s.op ≠ 4) : Ts x (performF v x s).1 := by
  have hta := Ts.take v x s h4
  by_cases h5 : s.op = 5
  · rw [performF_5 h5]; exact hta.outs _
  by_cases h6 : s.op = 6
  · rw [performF_6 h6]; exact hta.log _
  by_cases h7 : s.op = 7
  · rw [performF_7 h7]; exact hta.log _
  by_cases h8 : s.op = 8
  · rw [performF_8 h8]; exact hta.tests _
  by_cases h9 : s.op = 9
  · rw [performF_9 h9]; exact hta
  by_cases h11 : s.op = 11
  · rw [performF_11 h11]; exact hta.child _
  · rw [performF_r h5 h6 h7 h8 h9 h11]; exact hta
def keysE (l : List EntM) : List ByteArray := l.map (·.key)
/-- x with restored entries, y without -/
structure SimC (x y : StM) : Prop where
  eq : y = { x with time := y.time, saves := y.saves }
  nx : (keysE x.saves).Nodup
  ny : (keysE y.saves).Nodup
  sub : ∀ k ∈ keysE x.saves, k ∈ keysE y.saves
  tm : x.time + 1000 * ((y.saves.length : Int) - (x.saves.length : Int)) ≤ y.time ∨ y.time = maxT
  tx : 0 ≤ x.time ∧ x.time ≤ maxT
  ty : 0 ≤ y.time ∧ y.time ≤ maxT
theorem SimC.memo {x y : StM} (h : SimC x y) (a : Nat → Nat) (tx ty : Int) (sx sy : List EntM) (nx : (keysE sx).Nodup) (ny : (keysE sy).Nodup) (sub : ∀ k ∈ keysE sx, k ∈ keysE sy)
    (tm : tx + 1000 * ((sy.length : Int) - (sx.length : Int)) ≤ ty ∨ ty = maxT) (hx : 0 ≤ tx ∧ tx ≤ maxT) (hy : 0 ≤ ty ∧ ty ≤ maxT) : SimC { x with time := tx, acc := a x.acc, saves := sx } { y with time := ty, acc := a y.acc, saves := sy } := by
  have e := h.eq
  obtain ⟨a1, a2, a3, a4, a5, a6, a7, a8⟩ := x
  obtain ⟨b1, b2, b3, b4, b5, b6, b7, b8⟩ := y
  simp only [StM.mk.injEq] at e
  obtain ⟨rfl, _, rfl, rfl, rfl, rfl, _, rfl⟩ := e
  exact ⟨rfl, nx, ny, sub, tm, hx, hy⟩
theorem SimC.keep (p : StM) (ty : Int) (sy : List EntM) (nx : (keysE p.saves).Nodup) (ny : (keysE sy).Nodup) (sub : ∀ k ∈ keysE p.saves, k ∈ keysE sy)
    (tm : p.time + 1000 * ((sy.length : Int) - (p.saves.length : Int)) ≤ ty ∨ ty = maxT) (hx : 0 ≤ p.time ∧ p.time ≤ maxT) (hy : 0 ≤ ty ∧ ty ≤ maxT) : SimC p { p with time := ty, saves := sy } := ⟨rfl, nx, ny, sub, tm, hx, hy⟩
theorem sub_len {α : Type} [DecidableEq α] {l m : List α} (h : l.Nodup) (hs : ∀ k ∈ l, k ∈ m) : l.length ≤ m.length := by
  induction l generalizing m with
  | nil => exact Nat.zero_le _
  | cons a l ih =>
    rw [List.nodup_cons] at h
    have ha := hs a (List.mem_cons_self ..)
    have := ih h.2 (m := m.erase a) fun k hk => (List.mem_erase_of_ne (fun e => h.1 (by rw [← e]; exact hk))).2 (hs k (List.mem_cons_of_mem _ hk))
    rw [List.length_erase_of_mem ha] at this
    have : 0 < m.length := List.length_pos_of_mem ha
    rw [List.length_cons]
    omega
theorem sub_lt {l m : List ByteArray} {a : ByteArray} (h : l.Nodup) (hs : ∀ k ∈ l, k ∈ m) (ha : a ∉ l) (hm : a ∈ m) : l.length < m.length :=
  sub_len (l := a :: l) (List.nodup_cons.2 ⟨ha, h⟩) fun k hk => by
    rcases List.mem_cons.1 hk with rfl | hk
    · exact hm
    · exact hs k hk
theorem SimC.le {x y : StM} (h : SimC x y) : x.time ≤ y.time := by
  have := sub_len h.nx h.sub
  unfold keysE at this
  rw [List.length_map, List.length_map] at this
  have := h.tx
  rcases h.tm with h | h <;> omega
theorem known_iff {v : ViewM} {sv : List EntM} {n : Int} : knownF (noC v) sv n = true ↔ keyF v n ∈ keysE sv := by
  unfold knownF
  have e : (noC v).caches[n.toNat]? = none := rfl
  rw [e]
  dsimp only
  rw [Bool.or_false, List.any_eq_true]
  unfold keysE
  rw [List.mem_map]
  constructor
  · rintro ⟨e, h1, h2⟩; exact ⟨e, h1, of_decide_eq_true h2⟩
  · rintro ⟨e, h1, h2⟩; exact ⟨e, h1, decide_eq_true h2⟩
theorem known_of {v : ViewM} {sv : List EntM} {n : Int} (h : keyF v n ∈ keysE sv) : knownF v sv n = true := by
  unfold knownF
  rw [Bool.or_eq_true]
  left
  rw [List.any_eq_true]
  obtain ⟨e, h1, h2⟩ := List.mem_map.1 h
  exact ⟨e, h1, decide_eq_true h2⟩
def accM (k : ByteArray) (a : Nat) : Nat := ofN [109, 101, 109, 111] [a, memoF k]
def savM (b : Bool) (k : ByteArray) (l : List EntM) : List EntM := if b = true then l else l ++ [entK k]
def memoS (x : StM) (k : ByteArray) (b : Bool) : StM := { x with acc := accM k x.acc, saves := savM b k x.saves }
theorem perform_memo (v : ViewM) (x : StM) (s : StepM) (h : s.op = 4) : performF v x s = (memoS x (keyF v s.n) (knownF v x.saves s.n), 0) := by
  rw [performF_r (by omega) (by omega) (by omega) (by omega) (by omega) (by omega), takeF_four h]
  rfl
theorem memoS_time (x : StM) (t : Int) (k : ByteArray) (b : Bool) : memoS { x with time := t } k b = { x with time := t, acc := accM k x.acc, saves := savM b k x.saves } := rfl
theorem savM_true (k : ByteArray) (l : List EntM) : savM true k l = l := rfl
theorem savM_false (k : ByteArray) (l : List EntM) : savM false k l = l ++ [entK k] := rfl
theorem keys_push (l : List EntM) (k : ByteArray) : keysE (l ++ [entK k]) = keysE l ++ [k] := by unfold keysE; rw [List.map_append]; rfl
theorem nodup_push {l : List ByteArray} {k : ByteArray} (h : l.Nodup) (hk : k ∉ l) : (l ++ [k]).Nodup := by
  rw [List.nodup_append]
  refine ⟨h, by simp, fun a ha b hb e => ?_⟩
  rw [List.mem_singleton] at hb
  subst e hb
  exact hk ha
theorem len_push (l : List EntM) (k : ByteArray) : ((l ++ [entK k]).length : Int) = (l.length : Int) + 1 := by simp
theorem step_go {D : ByteArray → Bool} {j : JobM} {v : ViewM} {x : StM} {s : StepM} (hr : ¬ refusedF D j v s ≠ 0) (t : Int) (e : addI x.time (takesF v x.saves s) = t) (ht : ¬ j.timeout < t) : stepF D j v x s = performF v { x with time := t } s := by
  subst e
  unfold stepF
  rw [if_neg hr, if_neg ht]
theorem addI_bd {a d : Int} (ha : 0 ≤ a) (hd : 0 ≤ d) : 0 ≤ addI a d ∧ addI a d ≤ maxT := by
  have := maxT_nn
  rw [addI_nn ha hd]
  omega
theorem tm_both {a b p q M d : Int} (h : a + 1000 * (q - p) ≤ b ∨ b = M) (_hq : p ≤ q) (_ha : a ≤ M) (_hb : b ≤ M) (hd : 0 ≤ d) : min (a + d) M + 1000 * (q - p) ≤ min (b + d) M ∨ min (b + d) M = M := by omega
theorem tm_x {a b p q M : Int} (h : a + 1000 * (q - p) ≤ b ∨ b = M) (_hq : p < q) (ha : a ≤ M) (hb : b ≤ M) : min (a + 1000) M + 1000 * (q - (p + 1)) ≤ min (b + 0) M ∨ min (b + 0) M = M := by omega
theorem tm_y {a b p q M : Int} (h : a + 1000 * (q - p) ≤ b ∨ b = M) (_hq : p ≤ q) (ha : a ≤ M) (_hb : b ≤ M) : min (a + 0) M + 1000 * (q + 1 - p) ≤ min (b + 1000) M ∨ min (b + 1000) M = M := by omega
theorem tm_two {a b p q M : Int} (h : a + 1000 * (q - p) ≤ b ∨ b = M) (_hq : p ≤ q) (ha : a ≤ M) (_hb : b ≤ M) : min (a + 1000) M + 1000 * (q + 1 - (p + 1)) ≤ min (b + 1000) M ∨ min (b + 1000) M = M := by omega
theorem le_x {a b p q M : Int} (h : a + 1000 * (q - p) ≤ b ∨ b = M) (hq : p < q) (ha : a ≤ M) (hb : b ≤ M) : min (a + 1000) M ≤ min (b + 0) M := by omega
theorem le_d {a b M d : Int} (h : a ≤ b) : min (a + d) M ≤ min (b + d) M := by omega
theorem le_y {a b M : Int} (h : a ≤ b) : min (a + 0) M ≤ min (b + 1000) M := by omega
theorem simc_step (D : ByteArray → Bool) (j : JobM) (v : ViewM) (s : StepM) (x y : StM) (h : SimC x y) (h0 : (stepF D j (noC v) y s).2 = 0) :
    (stepF D j v x s).2 = 0 ∧ SimC (stepF D j v x s).1 (stepF D j (noC v) y s).1 := by
  have hr : ¬ refusedF D j (noC v) s ≠ 0 := by
    intro hr
    unfold stepF at h0
    rw [if_pos hr] at h0
    exact hr h0
  have ht : ¬ j.timeout < addI y.time (takesF (noC v) y.saves s) := by
    intro ht
    unfold stepF at h0
    rw [if_neg hr, if_pos ht] at h0
    cases h0
  have hr2 : ¬ refusedF D j v s ≠ 0 := hr
  have hle := h.le
  have hlen := sub_len h.nx h.sub
  unfold keysE at hlen
  rw [List.length_map, List.length_map] at hlen
  have hln : (x.saves.length : Int) ≤ (y.saves.length : Int) := by omega
  obtain ⟨tx1, tx2⟩ := h.tx
  obtain ⟨ty1, ty2⟩ := h.ty
  have htm := h.tm
  rw [step_go hr _ rfl ht] at h0 ⊢
  by_cases h4 : s.op = 4
  · have ey2 : takesF (noC v) y.saves s = if knownF (noC v) y.saves s.n = true then 0 else 1000 := by unfold takesF; rw [if_pos h4]
    have ex2 : takesF v x.saves s = if knownF v x.saves s.n = true then 0 else 1000 := by unfold takesF; rw [if_pos h4]
    have hk : keyF (noC v) s.n = keyF v s.n := rfl
    rw [perform_memo _ _ _ h4, hk, memoS_time]
    clear h0
    cases hyk : knownF (noC v) y.saves s.n with
    | true =>
      have hy := known_iff.1 hyk
      rw [hyk, if_pos rfl] at ey2
      rw [ey2, addI_nn ty1 (by decide)] at ht ⊢
      cases hxk : knownF v x.saves s.n with
      | true =>
        rw [hxk, if_pos rfl] at ex2
        rw [step_go hr2 (min (x.time + 0) maxT) (by rw [ex2, addI_nn tx1 (by decide)]) (by have := le_d (M := maxT) (d := 0) hle; omega), perform_memo _ _ _ h4, memoS_time, hxk, savM_true]
        exact ⟨rfl, h.memo (accM _) _ _ _ _ h.nx h.ny h.sub (tm_both htm hln tx2 ty2 (by decide)) (by rw [← addI_nn tx1 (by decide)]; exact addI_bd tx1 (by decide)) (by rw [← addI_nn ty1 (by decide)]; exact addI_bd ty1 (by decide))⟩
      | false =>
        rw [hxk, if_neg (by decide)] at ex2
        have hxn : keyF v s.n ∉ keysE x.saves := fun k => by have := known_of k; rw [hxk] at this; cases this
        have hlt := sub_lt h.nx h.sub hxn hy
        unfold keysE at hlt
        rw [List.length_map, List.length_map] at hlt
        have hlti : (x.saves.length : Int) < (y.saves.length : Int) := by omega
        rw [step_go hr2 (min (x.time + 1000) maxT) (by rw [ex2, addI_nn tx1 (by decide)]) (by have := le_x htm hlti tx2 ty2; omega), perform_memo _ _ _ h4, memoS_time, hxk, savM_true, savM_false]
        refine ⟨rfl, h.memo (accM _) _ _ _ _ (by rw [keys_push]; exact nodup_push h.nx hxn) h.ny ?_ (by rw [len_push]; exact tm_x htm hlti tx2 ty2) (by rw [← addI_nn tx1 (by decide)]; exact addI_bd tx1 (by decide)) (by rw [← addI_nn ty1 (by decide)]; exact addI_bd ty1 (by decide))⟩
        rw [keys_push]
        intro k hk
        rcases List.mem_append.1 hk with hk | hk
        · exact h.sub k hk
        · rw [List.mem_singleton.1 hk]; exact hy
    | false =>
      have hy : keyF v s.n ∉ keysE y.saves := fun k => by have := known_iff.2 k; rw [hyk] at this; cases this
      have hxn : keyF v s.n ∉ keysE x.saves := fun k => hy (h.sub _ k)
      rw [hyk, if_neg (by decide)] at ey2
      rw [ey2, addI_nn ty1 (by decide)] at ht ⊢
      cases hxk : knownF v x.saves s.n with
      | true =>
        rw [hxk, if_pos rfl] at ex2
        rw [step_go hr2 (min (x.time + 0) maxT) (by rw [ex2, addI_nn tx1 (by decide)]) (by have := le_y (M := maxT) hle; omega), perform_memo _ _ _ h4, memoS_time, hxk, savM_true, savM_false]
        refine ⟨rfl, h.memo (accM _) _ _ _ _ h.nx (by rw [keys_push]; exact nodup_push h.ny hy) ?_ (by rw [len_push]; exact tm_y htm hln tx2 ty2) (by rw [← addI_nn tx1 (by decide)]; exact addI_bd tx1 (by decide)) (by rw [← addI_nn ty1 (by decide)]; exact addI_bd ty1 (by decide))⟩
        rw [keys_push]
        exact fun k hk => List.mem_append.2 (.inl (h.sub k hk))
      | false =>
        rw [hxk, if_neg (by decide)] at ex2
        rw [step_go hr2 (min (x.time + 1000) maxT) (by rw [ex2, addI_nn tx1 (by decide)]) (by have := le_d (M := maxT) (d := 1000) hle; omega), perform_memo _ _ _ h4, memoS_time, hxk, savM_false, savM_false]
        refine ⟨rfl, h.memo (accM _) _ _ _ _ (by rw [keys_push]; exact nodup_push h.nx hxn) (by rw [keys_push]; exact nodup_push h.ny hy) ?_ (by rw [len_push, len_push]; exact tm_two htm hln tx2 ty2) (by rw [← addI_nn tx1 (by decide)]; exact addI_bd tx1 (by decide)) (by rw [← addI_nn ty1 (by decide)]; exact addI_bd ty1 (by decide))⟩
        rw [keys_push, keys_push]
        intro k hk
        rcases List.mem_append.1 hk with hk | hk
        · exact List.mem_append.2 (.inl (h.sub k hk))
        · exact List.mem_append.2 (.inr hk)
  · have et : takesF (noC v) y.saves s = takesF v x.saves s := by unfold takesF; rw [if_neg h4, if_neg h4]; rfl
    rw [et] at ht h0 ⊢
    have hd := takesF_nn v x.saves s
    have ed : takesF v x.saves s = takesF v x.saves s := rfl
    generalize hgd : takesF v x.saves s = d at *
    rw [addI_nn ty1 hd] at ht h0 ⊢
    rw [step_go hr2 (min (x.time + d) maxT) (by rw [hgd, addI_nn tx1 hd]) (by have := le_d (M := maxT) (d := d) hle; omega)]
    have eyp : { y with time := min (y.time + d) maxT } = ({ ({ x with time := min (x.time + d) maxT } : StM) with time := min (y.time + d) maxT, saves := y.saves } : StM) := by
      conv => lhs; rw [h.eq]
    have hsv := perform_st v { x with time := min (x.time + d) maxT } s h4
    rw [eyp, perform_ts v _ _ _ s h4] at h0 ⊢
    generalize performF v { x with time := min (x.time + d) maxT } s = r at *
    obtain ⟨p, c⟩ := r
    obtain ⟨e1, e2⟩ := hsv
    dsimp only at e1 e2 h0 ⊢
    refine ⟨h0, SimC.keep p _ _ (by rw [e1]; exact h.nx) h.ny (by rw [e1]; exact h.sub) (by rw [e1, e2]; exact tm_both htm hln tx2 ty2 hd) (by rw [e2, ← addI_nn tx1 hd]; exact addI_bd tx1 hd) (by rw [← addI_nn ty1 hd]; exact addI_bd ty1 hd)⟩
/-- SandboxCaches, in plain words -/
theorem caches_plain (D : ByteArray → Bool) (j : JobM) (v : ViewM) (h : (execF D j (noC v)).status = 1) :
    (execF D j v).status = 1 ∧ (execF D j v).cls = 0 ∧ (execF D j (noC v)).cls = 0 ∧ (execF D j v).time ≤ (execF D j (noC v)).time ∧ (execF D j v).child = (execF D j (noC v)).child ∧ (execF D j v).inputs = (execF D j (noC v)).inputs ∧
    (execF D j v).outputs = (execF D j (noC v)).outputs ∧ (execF D j v).tests = (execF D j (noC v)).tests ∧ (execF D j v).log = (execF D j (noC v)).log ∧ (execF D j v).saves.length ≤ (execF D j (noC v)).saves.length := by
  have hc : (runF D j (noC v) (st0 j) j.steps).2 = 0 := by
    unfold execF effectF at h
    dsimp only at h
    split at h
    · assumption
    · cases h
  obtain ⟨h1, h2⟩ := runF_lead D j v (noC v) SimC j.steps (st0 j) (st0 j) (fun s _ x y hxy h0 => simc_step D j v s x y hxy h0) ⟨rfl, List.nodup_nil, List.nodup_nil, fun _ h => h, .inl (by show (0 : Int) + 1000 * (0 - 0) ≤ 0; omega), ⟨Int.le_refl _, maxT_nn⟩, ⟨Int.le_refl _, maxT_nn⟩⟩ hc
  have hle := h2.le
  have hlen := sub_len h2.nx h2.sub
  unfold keysE at hlen
  rw [List.length_map, List.length_map] at hlen
  unfold execF effectF
  generalize runF D j v (st0 j) j.steps = r at *
  generalize runF D j (noC v) (st0 j) j.steps = q at *
  have he := h2.eq
  dsimp only
  rw [h1, hc]
  refine ⟨rfl, rfl, rfl, hle, ?_, ?_, ?_, ?_, ?_, hlen⟩ <;> (rw [he]; try rfl)
theorem saves_plain (D : ByteArray → Bool) (j : JobM) (v : ViewM) : ∀ e ∈ (execF D j v).saves, e = entK e.key := (lists_run D j v).saves
end Go.Proofs.YtghahghbahcpfaaGreatDoor
