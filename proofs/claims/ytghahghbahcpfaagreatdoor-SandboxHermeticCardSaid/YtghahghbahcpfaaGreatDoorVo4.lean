/- The walk over the law's there. -/
import Derived.Test.YtghahghbahcpfaaGreatDoorVo2
import Derived.Test.YtghahghbahcpfaaGreatDoorVo3
import Derived.Test.YtghahghbahcpfaaGreatDoorVl1
import Derived.StillTailTactics
import Derived.Test.YtghahghbahcpfaaGreatDoorVs10
namespace Go.Proofs.YtghahghbahcpfaaGreatDoor
open Go.RowKit

/-- a drawing region whose first operations only read: its world by a name -/
theorem wp_region_tailW {P : Program} {id : Nat} {Q : Exit → Act → World → Prop} {a : Act} {w : World} {l : List Oper} (n : Nat) (hm : P.follows .mixedOrders = true) (hB : Region.lexTailB .any l.toArray n = true)
    (h : ∀ W, W = w.drew → wpStill P l.toArray W (fun a' => wpList P l.toArray Q (l.drop n) a' W) (l.take n) a) : (Code.region id l.toArray true).wp P Q a w :=
  wp_region_still_tail n hm hB (h _ rfl)
/-- a whole struct is loaded, in the part that only reads -/
theorem wpStill_loadG {P : Program} {ops : Array Oper} {rest : List Oper} {op : Oper} {a : Act} {w : World} {Q : Act → Prop} (hw : Region.wanted op (yielded ops a.tmps) = true) (ty : TypeId) (x : Operand) (ho : op.op = .load ty x)
    (b o : Nat) (hx : a.eval x = .pointer (some ⟨b, o, none⟩)) (cs : List Value) (d : TypeDesc) (hc : w.rangeAt b o cs)
    (hu : P.underlying ty = some d) (hd : d.isRow = true) (hi : (P.info? ty).map (·.size) = some cs.length)
    (h : wpStill P ops w Q rest (a.put op.dst (.agg cs.toArray))) : wpStill P ops w Q (op :: rest) a := by
  refine wpStill_step (fun K hK => ?_)
  rw [if_pos hw]
  have e : (execOp a.eval op).run P w = .ok (.value (.agg cs.toArray)) w := by
    unfold execOp
    simp only [ho, hx, Instr.loadAt, Instr.sureAddr, Sem.run_bind, Sem.run_pure, Result.andThen_ok, run_loadVar_mid w b o ty cs d hc hu hd hi]
  unfold Oper.still
  rw [e, Oper.stillUpon_value]
  exact hK _ h
end Go.Proofs.YtghahghbahcpfaaGreatDoor
/- What the reference's tests of sizes say; a job's and a view's cells in one function. -/
namespace Go.Proofs.YtghahghbahcpfaaGreatDoor
open Go.RowKit

/-- a job's and a view's cells -/
def mkC (a b : Nat → Value) (i : Nat) : Value := if i < 39 then a i else b i
theorem jat_mk {xb : Nat} {a b : Nat → Value} {j : JobM} {w : World} (h : JAt xb a j w) : JAt xb (mkC a b) j w :=
  ⟨h.steps, h.timeout, h.inputs, h.uses, h.outputs, h.caches, h.secrets, h.child⟩
theorem vat_mk {xb : Nat} {a b : Nat → Value} {v : ViewM} {w : World} (h : VAt xb b v w) : VAt xb (mkC a b) v w :=
  ⟨h.files, h.arts, h.secs, h.caches, h.keys, h.tests, h.times, h.ign, h.att⟩
theorem shortF_true {L : List ByteArray} {m s : Int} (h : shortF L m s = true) : (L.length : Int) ≤ m ∧ ∀ x ∈ L, (x.size : Int) ≤ s := by
  unfold shortF at h
  rw [Bool.and_eq_true, decide_eq_true_eq, List.all_eq_true] at h
  exact ⟨h.1, fun x hx => of_decide_eq_true (h.2 x hx)⟩
/-- what a small job's sizes are -/
structure JS (j : JobM) : Prop where
  jb : JB j
  steps : j.steps.length ≤ 70
  caches : j.ncach ≤ 10
  stepN : ∀ s ∈ j.steps, s.name.size ≤ 300 ∧ s.text.size ≤ 300
  inputs : j.inputs.length ≤ 6
  inputN : ∀ x ∈ j.inputs, x.size ≤ 100
  uses : j.uses.length ≤ 20
  secrets : j.secrets.length ≤ 20
  outputs : j.outputs.length ≤ 20
theorem JS.of {j : JobM} (hf : JFit j) (h : smallJF j = true) : JS j := by
  unfold smallJF at h
  simp only [Bool.and_eq_true, decide_eq_true_eq] at h
  obtain ⟨⟨h1, h2⟩, h3, h4, h5, h6, h7⟩ := h
  have h3' : ∀ s ∈ j.steps, s.name.size ≤ 300 ∧ s.text.size ≤ 300 := fun s hs => by
    have := List.all_eq_true.1 h3 s hs
    unfold smallSt at this
    rw [Bool.and_eq_true, decide_eq_true_eq, decide_eq_true_eq] at this
    omega
  obtain ⟨i1, i2⟩ := shortF_true h4
  obtain ⟨u1, _⟩ := shortF_true h5
  obtain ⟨s1, _⟩ := shortF_true h6
  obtain ⟨o1, _⟩ := shortF_true h7
  have i3 : ∀ x ∈ j.inputs, x.size ≤ 100 := fun x hx => by have := i2 x hx; omega
  exact ⟨⟨by omega, hf.timeout, by omega, fun x hx => by have := i3 x hx; omega, by omega, by omega, by omega, by omega, fun s hs => by
    obtain ⟨a, b⟩ := h3' s hs
    obtain ⟨c, _, _, d⟩ := hf.stepN s hs
    exact ⟨by omega, by omega, c, d⟩⟩, by omega, by omega, h3', by omega, i3, by omega, by omega, by omega⟩
/-- what a small view's sizes are -/
structure VS (v : ViewM) : Prop where
  vb : VB v
  files : v.files.length ≤ 30
  arts : v.arts.length ≤ 30
  caches : v.caches.length ≤ 12
  times : v.times.length ≤ 60
  secs : v.secs.length ≤ 70
  secN : ∀ s ∈ v.secs, s.name.size ≤ 1000 ∧ s.text.size ≤ 1000 ∧ s.refs.length ≤ 6 ∧ s.envs.length ≤ 6
  fileN : ∀ f ∈ v.files, f.path.size ≤ 300
  artN : ∀ f ∈ v.arts, f.name.size ≤ 300
  keys : v.keys.length ≤ 12
  keyN : ∀ k ∈ v.keys, k.size ≤ 600
  tests : v.tests.length ≤ 40
  testN : ∀ k ∈ v.tests, k.size ≤ 300
  ign : v.ignored.length ≤ 40
theorem VS.of {v : ViewM} (hf : VFit v) (h : smallVF v = true) : VS v := by
  unfold smallVF at h
  simp only [Bool.and_eq_true, decide_eq_true_eq] at h
  obtain ⟨⟨h1, h2, h3, h4, h5⟩, h6, h7, h8, h9, h10⟩ := h
  unfold small41F at h5
  simp only [Bool.and_eq_true, decide_eq_true_eq] at h5
  obtain ⟨s1, s2⟩ := h5
  have sN : ∀ s ∈ v.secs, s.name.size ≤ 1000 ∧ s.text.size ≤ 1000 ∧ s.refs.length ≤ 6 ∧ s.envs.length ≤ 6 := fun s hs => by
    have := List.all_eq_true.1 s2 s hs
    unfold smallS at this
    simp only [Bool.and_eq_true, decide_eq_true_eq] at this
    obtain ⟨⟨⟨a, b⟩, c⟩, d⟩ := this
    have c1 := (shortF_true c).1
    have d1 := (shortF_true d).1
    omega
  have fN : ∀ f ∈ v.files, f.path.size ≤ 300 := fun f hf' => by
    have := List.all_eq_true.1 h6 f hf'
    unfold smallFl at this
    rw [decide_eq_true_eq] at this
    omega
  have aN : ∀ f ∈ v.arts, f.name.size ≤ 300 := fun f hf' => by
    have := List.all_eq_true.1 h7 f hf'
    unfold smallAr at this
    rw [decide_eq_true_eq] at this
    omega
  obtain ⟨k1, k2⟩ := shortF_true h8
  obtain ⟨t1, t2⟩ := shortF_true h9
  obtain ⟨g1, _⟩ := shortF_true h10
  have kN : ∀ k ∈ v.keys, k.size ≤ 600 := fun x hx => by have := k2 x hx; omega
  have tN : ∀ k ∈ v.tests, k.size ≤ 300 := fun x hx => by have := t2 x hx; omega
  exact ⟨⟨by omega, by omega, by omega, by omega, by omega, by omega, by omega, by omega,
    fun f h => ⟨by have := fN f h; omega, (hf.fileN f h).2⟩, fun f h => ⟨by have := aN f h; omega, (hf.artN f h).2.1⟩, fun s h => by have := sN s h; omega, fun k h => by have := kN k h; omega⟩,
    by omega, by omega, by omega, by omega, by omega, sN, fN, aN, by omega, kN, by omega, tN, by omega⟩
end Go.Proofs.YtghahghbahcpfaaGreatDoor
/- How long an execution's lists are. -/
namespace Go.Proofs.YtghahghbahcpfaaGreatDoor

theorem run_bd {D : ByteArray → Bool} {j : JobM} {v : ViewM} (hB : VB v) : ∀ (l : List StepM) (i : Nat) (x : StM), Bd i x → (∀ s ∈ l, s.name.size ≤ 100000 ∧ s.text.size ≤ 100000) → Bd (i + l.length) (runF D j v x l).1
  | [], i, x, h, _ => h
  | s :: l, i, x, h, hs => by
    have h1 : Bd (i + 1) (stepF D j v x s).1 := h.step hB (hs s (List.mem_cons_self ..)).1 (hs s (List.mem_cons_self ..)).2
    unfold runF
    split
    · exact h1.up (by rw [List.length_cons]; omega)
    · have := run_bd (D := D) (j := j) hB l (i + 1) _ h1 fun s' h' => hs s' (List.mem_cons_of_mem _ h')
      rw [List.length_cons, show i + (l.length + 1) = i + 1 + l.length by omega]
      exact this
/-- the lists of an execution's effect are short -/
structure EB (n : Nat) (E : EffM) : Prop where
  il : E.inputs.length ≤ n
  iN : ∀ o ∈ E.inputs, o.name.size ≤ 100000
  ol : E.outputs.length ≤ n
  oN : ∀ o ∈ E.outputs, o.name.size ≤ 100000
  sl : E.saves.length ≤ n
  ll : E.log.length ≤ 1048576
theorem exec_bd (D : ByteArray → Bool) (j : JobM) (v : ViewM) (hB : VB v) (hs : ∀ s ∈ j.steps, s.name.size ≤ 100000 ∧ s.text.size ≤ 100000) : EB j.steps.length (execF D j v) := by
  have h := run_bd (D := D) (j := j) hB j.steps 0 (st0 j) (Bd.zero j) hs
  rw [Nat.zero_add] at h
  unfold execF effectF
  generalize runF D j v (st0 j) j.steps = r at *
  refine ⟨?_, fun o ho => h.rs o ((sortN_perm _).mem_iff.1 ho), ?_, fun o ho => ?_, h.sl, ?_⟩
  · rw [show (sortN nmO r.1.reads).length = r.1.reads.length from (sortN_perm _).length_eq]; exact h.rl
  · dsimp only
    split
    · rw [(sortN_perm _).length_eq]; exact h.ol
    · exact Nat.zero_le _
  · dsimp only at ho
    split at ho
    · exact h.os o ((sortN_perm _).mem_iff.1 ho)
    · cases ho
  · dsimp only
    rw [List.length_take]
    exact Nat.min_le_left _ _
end Go.Proofs.YtghahghbahcpfaaGreatDoor
