/- Three lists of one's own that come to be in whatever order: hidden's first statement. -/
import Derived.Test.YtghahghbahcpfaaGreatDoorSt6
namespace Go.Proofs.YtghahghbahcpfaaGreatDoor
open Go.RowKit

/-- a list that comes to be: not yet, an empty literal, all of it -/
inductive Grw where
  | no
  | bu (p : Nat)
  | ap (u : Value)
def GrwOk {α : Type} (E : ElemK α) (T : TypeId) (p0 g : Nat) (L : List α) (W : World) : Grw → Prop
  | .no => True
  | .bu p => g < p ∧ p ≤ W.heap.size ∧ E.Own T p (fun b => b < p0) W [] (.slice (some ⟨p, 0, none⟩) 0 0)
  | .ap u => ∃ p, g < p ∧ p ≤ W.heap.size ∧ E.Own T p (fun b => b < p0) W L u
section
variable {α : Type} {E : ElemK α} {T : TypeId} {p0 g : Nat} {L : List α} {W W' : World} {s : Grw}
theorem GrwOk.below (h : GrwOk E T p0 g L W s) (hb : Below W.heap.size W W') : GrwOk E T p0 g L W' s := by
  cases s with
  | no => trivial
  | bu p => exact ⟨h.1, Nat.le_trans h.2.1 hb.size, h.2.2.below hb⟩
  | ap u => obtain ⟨p, h1, h2, h3⟩ := h; exact ⟨p, h1, Nat.le_trans h2 hb.size, h3.below hb⟩
theorem GrwOk.wrote {ob : Obj} (h : GrwOk E T p0 g L W s) (hp : p0 ≤ g) (hw : Wrote g ob W W') : GrwOk E T p0 g L W' s := by
  have hz := hw.size
  cases s with
  | no => trivial
  | bu p => exact ⟨h.1, by rw [hz]; exact h.2.1, h.2.2.wrote hw (fun e => by have := (h.2.2.low g e).1; have := h.1; omega) (fun b hb => Nat.ne_of_lt (Nat.lt_of_lt_of_le hb hp))⟩
  | ap u => obtain ⟨p, h1, h2, h3⟩ := h; exact ⟨p, h1, by rw [hz]; exact h2, h3.wrote hw (fun e => by have := (h3.low g e).1; omega) (fun b hb => Nat.ne_of_lt (Nat.lt_of_lt_of_le hb hp))⟩
/-- another list grows -/
theorem GrwOk.other {q : Nat} {T' : TypeId} {cur : Array Value} {fr : Nat × Nat} (h : GrwOk E T p0 g L W s) (hp : p0 ≤ g) (hq : g < q) (hk : W.heap[q]? = some (.cells cur T' fr)) (ht : T ≠ T') (hg : W.grownBy W' (some q)) : GrwOk E T p0 g L W' s := by
  have key : ∀ {p : Nat} {M : List α} {v : Value}, E.Own T p (fun b => b < p0) W M v → v.ownBlock = none ∨ v.ownBlock ≠ some q := fun {p M v} h => by
    refine .inr fun e => ?_
    obtain ⟨c2, f2, e2⟩ := own_ty h q e
    rw [hk] at e2
    injection e2 with e2
    injection e2 with _ e2 _
    exact ht e2.symm
  have hB : ∀ b, b < p0 → b < W.heap.size → some b ≠ some q := fun b hb _ e => by have e := Option.some.inj e; omega
  cases s with
  | no => trivial
  | bu p => exact ⟨h.1, Nat.le_trans h.2.1 hg.size, h.2.2.kept hg (key h.2.2) hB⟩
  | ap u => obtain ⟨p, h1, h2, h3⟩ := h; exact ⟨p, h1, Nat.le_trans h2 hg.size, h3.kept hg (key h3) hB⟩
theorem grw_new (hw : W.alloc (.cells #[] T) = W') (hg : g < W.heap.size) : GrwOk E T p0 g L W' (.bu W.heap.size) := by
  obtain ⟨h1, h2, h3⟩ := alloc_here hw
  exact ⟨hg, by omega, own_none h1⟩
end
/-- the three lists, and the block g -/
structure HdS (p0 g : Nat) (w4 : World) (cur : Array Value) (v : ViewM) (s0 s1 s2 : Grw) (W : World) : Prop where
  pg : p0 ≤ g
  blk : W.heap[g]? = some (.cells cur tView (0, 0))
  bel : Below g w4 W
  f : GrwOk EFile tFile p0 g v.files W s0
  a : GrwOk EOut tOut p0 g v.arts W s1
  s : GrwOk ESec tSec p0 g v.secs W s2
section
variable {p0 g : Nat} {w4 : World} {cur : Array Value} {v : ViewM} {s0 s1 s2 : Grw} {W W' : World}
theorem HdS.lt (h : HdS p0 g w4 cur v s0 s1 s2 W) : g < W.heap.size := (Array.getElem?_eq_some_iff.1 h.blk).1
theorem HdS.below (h : HdS p0 g w4 cur v s0 s1 s2 W) (hb : Below W.heap.size W W') : HdS p0 g w4 cur v s0 s1 s2 W' :=
  ⟨h.pg, (hb.block g h.lt).trans h.blk, h.bel.trans (hb.mono (Nat.le_of_lt h.lt)), h.f.below hb, h.a.below hb, h.s.below hb⟩
theorem HdS.b0 (h : HdS p0 g w4 cur v .no s1 s2 W) (hw : W.alloc (.cells #[] tFile) = W') : HdS p0 g w4 cur v (.bu W.heap.size) s1 s2 W' := by
  have k := h.below (alloc_here hw).2.1
  exact ⟨k.pg, k.blk, k.bel, grw_new hw h.lt, k.a, k.s⟩
theorem HdS.b1 (h : HdS p0 g w4 cur v s0 .no s2 W) (hw : W.alloc (.cells #[] tOut) = W') : HdS p0 g w4 cur v s0 (.bu W.heap.size) s2 W' := by
  have k := h.below (alloc_here hw).2.1
  exact ⟨k.pg, k.blk, k.bel, k.f, grw_new hw h.lt, k.s⟩
theorem HdS.b2 (h : HdS p0 g w4 cur v s0 s1 .no W) (hw : W.alloc (.cells #[] tSec) = W') : HdS p0 g w4 cur v s0 s1 (.bu W.heap.size) W' := by
  have k := h.below (alloc_here hw).2.1
  exact ⟨k.pg, k.blk, k.bel, k.f, k.a, grw_new hw h.lt⟩
theorem HdS.st (h : HdS p0 g w4 cur v s0 s1 s2 W) (k : Nat) (u : Value) (hw : Wrote g (.cells (cur.setIfInBounds k u) tView (0, 0)) W W') : HdS p0 g w4 (cur.setIfInBounds k u) v s0 s1 s2 W' :=
  ⟨h.pg, hw.at_, h.bel.trans (hw.below (Nat.le_refl _)), h.f.wrote h.pg hw, h.a.wrote h.pg hw, h.s.wrote h.pg hw⟩
/-- an own block stays apart from g -/
theorem HdS.grown {p : Nat} (h : HdS p0 g w4 cur v s0 s1 s2 W) (hp : g < p) (hg : W.grownBy W' (some p)) : W'.heap[g]? = some (.cells cur tView (0, 0)) ∧ Below g w4 W' :=
  ⟨(hg.block g h.lt (fun e => by have e := Option.some.inj e; omega)).trans h.blk, h.bel.trans (below_grown hg (Nat.le_of_lt h.lt) (fun q e => by have e := Option.some.inj e; omega))⟩
theorem row_at {α : Type} {E : ElemK α} {p : Nat} {L : List α} {u : Value} (h : E.Row (fun b => b < p0) w4 L u) (hb : Below g w4 W) (hp : p0 ≤ g) (hg : g < p) : E.Row (fun b => b < p0 ∧ (Value.slice (some ⟨p, 0, none⟩) 0 0).ownBlock ≠ some b) W L u :=
  (h.keep hb.size (fun b hb' _ => hb.block b (Nat.lt_of_lt_of_le hb' hp))).mono fun b hb' => ⟨hb', fun e => by have e : p = b := Option.some.inj e; omega⟩
theorem HdS.form0 {u : Value} (h : HdS p0 g w4 cur v (.ap u) s1 s2 W) : ∃ ao k, u = .slice ao v.files.length k := by
  obtain ⟨_, _, _, h⟩ := h.f
  exact h.form
theorem HdS.form1 {u : Value} (h : HdS p0 g w4 cur v s0 (.ap u) s2 W) : ∃ ao k, u = .slice ao v.arts.length k := by
  obtain ⟨_, _, _, h⟩ := h.a
  exact h.form
theorem HdS.form2 {u : Value} (h : HdS p0 g w4 cur v s0 s1 (.ap u) W) : ∃ ao k, u = .slice ao v.secs.length k := by
  obtain ⟨_, _, _, h⟩ := h.s
  exact h.form
variable {o : Oper} {a : Act} {K : Act → World → Prop} {Q : Exit → Act → World → Prop} {p xc : Nat} {xo : Option Addr}
theorem HdS.a0 (h : HdS p0 g w4 cur v (.bu p) s1 s2 W) (hl : v.files.length ≤ 1000000) (hM : EFile.Row (fun b => b < p0) w4 v.files (.slice xo v.files.length xc)) (s x : Operand) (ho : o.op = .call { callee := .builtin .append, args := #[s, x], argTypes := #[39, 39] })
    (hs : a.eval s = .slice (some ⟨p, 0, none⟩) 0 0) (hx : a.eval x = .slice xo v.files.length xc) (k : ∀ u W', HdS p0 g w4 cur v (.ap u) s1 s2 W' → K (a.put o.dst u) W') : Oper.wp Tryz.prog o a W K Q := by
  obtain ⟨i, hI, hz, hn, hy⟩ := Tryz.infoFile'
  obtain ⟨h1, h2, h3⟩ := h.f
  obtain ⟨c2, f2, e2⟩ := own_ty h3 p rfl
  refine wp_own_all (E := EFile) s x 39 ho p tFile i _ 24 Tryz.underlying39 hI hz hn hy rfl [] _ hs h3 v.files xo xc (row_at hM h.bel h.pg h1) hx (by unfold maxLen; simp; omega) (by simp; omega) h2 fun u W' hO hg => ?_
  obtain ⟨q1, q2⟩ := h.grown h1 hg
  exact k u W' ⟨h.pg, q1, q2, ⟨p, h1, Nat.le_trans h2 hg.size, hO⟩, h.a.other h.pg h1 e2 (by decide) hg, h.s.other h.pg h1 e2 (by decide) hg⟩
theorem HdS.a1 (h : HdS p0 g w4 cur v s0 (.bu p) s2 W) (hl : v.arts.length ≤ 1000000) (hM : EOut.Row (fun b => b < p0) w4 v.arts (.slice xo v.arts.length xc)) (s x : Operand) (ho : o.op = .call { callee := .builtin .append, args := #[s, x], argTypes := #[40, 40] })
    (hs : a.eval s = .slice (some ⟨p, 0, none⟩) 0 0) (hx : a.eval x = .slice xo v.arts.length xc) (k : ∀ u W', HdS p0 g w4 cur v s0 (.ap u) s2 W' → K (a.put o.dst u) W') : Oper.wp Tryz.prog o a W K Q := by
  obtain ⟨i, hI, hz, hn, hy⟩ := Tryz.infoOut'
  obtain ⟨h1, h2, h3⟩ := h.a
  obtain ⟨c2, f2, e2⟩ := own_ty h3 p rfl
  refine wp_own_all (E := EOut) s x 40 ho p tOut i _ 32 Tryz.underlying40 hI hz hn hy rfl [] _ hs h3 v.arts xo xc (row_at hM h.bel h.pg h1) hx (by unfold maxLen; simp; omega) (by simp; omega) h2 fun u W' hO hg => ?_
  obtain ⟨q1, q2⟩ := h.grown h1 hg
  exact k u W' ⟨h.pg, q1, q2, h.f.other h.pg h1 e2 (by decide) hg, ⟨p, h1, Nat.le_trans h2 hg.size, hO⟩, h.s.other h.pg h1 e2 (by decide) hg⟩
theorem HdS.a2 (h : HdS p0 g w4 cur v s0 s1 (.bu p) W) (hl : v.secs.length ≤ 1000000) (hM : ESec.Row (fun b => b < p0) w4 v.secs (.slice xo v.secs.length xc)) (s x : Operand) (ho : o.op = .call { callee := .builtin .append, args := #[s, x], argTypes := #[41, 41] })
    (hs : a.eval s = .slice (some ⟨p, 0, none⟩) 0 0) (hx : a.eval x = .slice xo v.secs.length xc) (k : ∀ u W', HdS p0 g w4 cur v s0 s1 (.ap u) W' → K (a.put o.dst u) W') : Oper.wp Tryz.prog o a W K Q := by
  obtain ⟨i, hI, hz, hn, hy⟩ := Tryz.infoSec'
  obtain ⟨h1, h2, h3⟩ := h.s
  obtain ⟨c2, f2, e2⟩ := own_ty h3 p rfl
  refine wp_own_all (E := ESec) s x 41 ho p tSec i _ 88 Tryz.underlying41 hI hz hn hy rfl [] _ hs h3 v.secs xo xc (row_at hM h.bel h.pg h1) hx (by unfold maxLen; simp; omega) (by simp; omega) h2 fun u W' hO hg => ?_
  obtain ⟨q1, q2⟩ := h.grown h1 hg
  exact k u W' ⟨h.pg, q1, q2, h.f.other h.pg h1 e2 (by decide) hg, h.a.other h.pg h1 e2 (by decide) hg, ⟨p, h1, Nat.le_trans h2 hg.size, hO⟩⟩
end
end Go.Proofs.YtghahghbahcpfaaGreatDoor
