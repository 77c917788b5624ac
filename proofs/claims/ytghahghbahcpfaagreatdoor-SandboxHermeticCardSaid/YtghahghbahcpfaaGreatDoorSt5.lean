/- A list in a field of a view's block that grows by append, round by round. -/
import Derived.Test.YtghahghbahcpfaaGreatDoorVo5
import Derived.Test.YtghahghbahcpfaaGreatDoorVs11
namespace Go.Proofs.YtghahghbahcpfaaGreatDoor
open Go.RowKit

/-- all blocks stay but g and the block of the first list -/
structure Kpt (g : Nat) (u0 : Value) (w w' : World) : Prop where
  os : w'.os = w.os
  tape : w'.tape = w.tape
  output : w'.output = w.output
  size : w.heap.size ≤ w'.heap.size
  block : ∀ k, k < w.heap.size → k ≠ g → u0.ownBlock ≠ some k → w'.heap[k]? = w.heap[k]?
theorem Kpt.refl (g : Nat) (u0 : Value) (w : World) : Kpt g u0 w w := ⟨rfl, rfl, rfl, Nat.le_refl _, fun _ _ _ _ => rfl⟩
theorem Kpt.later {g : Nat} {u0 : Value} {w w1 w2 : World} (h : Kpt g u0 w w1) (hb : Below w1.heap.size w1 w2) : Kpt g u0 w w2 :=
  ⟨hb.os.trans h.os, hb.tape.trans h.tape, hb.output.trans h.output, Nat.le_trans h.size hb.size, fun k hk h1 h2 => (hb.block k (Nat.lt_of_lt_of_le hk h.size)).trans (h.block k hk h1 h2)⟩
theorem Kpt.grown {g : Nat} {u0 u : Value} {w w1 w2 : World} (h : Kpt g u0 w w1) (hg : w1.grownBy w2 u.ownBlock) (hu : ∀ q, u.ownBlock = some q → u0.ownBlock = some q ∨ w.heap.size ≤ q) : Kpt g u0 w w2 :=
  ⟨hg.os.trans h.os, hg.tape.trans h.tape, hg.output.trans h.output, Nat.le_trans h.size hg.size, fun k hk h1 h2 => (hg.block k (Nat.lt_of_lt_of_le hk h.size) (fun e => by
    rcases hu k e.symm with h3 | h3
    · exact h2 h3
    · omega)).trans (h.block k hk h1 h2)⟩
theorem Kpt.wrote {g : Nat} {u0 : Value} {w w1 w2 : World} {ob : Obj} (h : Kpt g u0 w w1) (hw : Wrote g ob w1 w2) : Kpt g u0 w w2 :=
  ⟨hw.os.trans h.os, hw.tape.trans h.tape, hw.output.trans h.output, by rw [hw.size]; exact h.size, fun k hk h1 h2 => (hw.block k h1).trans (h.block k hk h1 h2)⟩
theorem Kpt.below {g : Nat} {u0 : Value} {w w1 : World} (h : Kpt g u0 w w1) (hg : g ≤ w.heap.size) (hu : ∀ q, u0.ownBlock = some q → g ≤ q) : Below g w w1 :=
  ⟨h.os, h.tape, h.output, h.size, fun k hk => h.block k (by omega) (by omega) (fun e => by have := hu k e; omega)⟩
/-- a row that is the call's own lies in its own block -/
theorem ElemK.Own.rowO {α : Type} {E : ElemK α} {e : TypeId} {base : Nat} {B : Nat → Prop} {w : World} {L : List α} {v : Value} (h : E.Own e base B w L v) : E.Row (fun b => B b ∨ v.ownBlock = some b) w L v := by
  rcases h.row (B' := fun _ => True) (fun _ _ => trivial) (fun _ _ => trivial) with ⟨ao, cap, rfl, rfl⟩ | ⟨bl, off, cap, rfl, _, h3, h4, h5⟩
  · exact .nil
  · obtain ⟨css, hl, hR, hrow⟩ := h
    refine .inr ⟨bl, off, cap, rfl, .inr rfl, h3, h4, fun k hk => ?_⟩
    have hlen : ∀ c ∈ css, c.length = E.sz := fun c hc => by
      obtain ⟨k, hk, rfl⟩ := List.getElem_of_mem hc
      exact E.len (hR k (by omega) hk)
    refine ⟨css[k]'(by omega), fun j u hu => ?_, E.mono (hR k hk (by omega)) fun b hb => .inl hb.1⟩
    have hrow' := hrow
    rcases hrow.2 with ⟨e1, _⟩ | ⟨g, cap', cur, e1, _, hg, _, _⟩
    · cases e1
    · injection e1 with e2 e3 e4
      injection e2 with e2
      injection e2 with e2 e5 e6
      subst e2 e5
      have := hrow'.cells (g := bl) rfl (k * E.sz + j) u (flatten_at css k (by omega) j u hlen hu)
      rw [show (⟨bl, 0, none⟩ : Addr).add (k * E.sz + j) = ⟨bl, k * E.sz + j, none⟩ from by unfold Addr.add; split <;> simp_all] at this
      rw [Nat.zero_add]
      exact this
/-- a list in the field k of the block g, that has grown since the world w0 from u0 on -/
structure Lp {α : Type} (E : ElemK α) (e : TypeId) (g k : Nat) (cs : Array Value) (base : Nat) (B : Nat → Prop) (w0 : World) (u0 : Value) (M : List α) (u : Value) (w : World) : Prop where
  blk : w.heap[g]? = some (.cells (cs.setIfInBounds k u) tView (0, 0))
  own : E.Own e base B w M u
  kpt : Kpt g u0 w0 w
  at_ : ∀ q, u.ownBlock = some q → u0.ownBlock = some q ∨ w0.heap.size ≤ q
section
variable {α : Type} {E : ElemK α} {e : TypeId} {g k : Nat} {cs : Array Value} {base : Nat} {B : Nat → Prop} {w0 w w1 w2 : World} {u0 u u' : Value} {M : List α}
theorem Lp.later (h : Lp E e g k cs base B w0 u0 M u w) (hb : Below w.heap.size w w1) : Lp E e g k cs base B w0 u0 M u w1 :=
  ⟨(hb.block g (Array.getElem?_eq_some_iff.1 h.blk).1).trans h.blk, h.own.below hb, h.kpt.later hb, h.at_⟩
theorem Lp.push (h : Lp E e g k cs base B w0 u0 M u w) (hg : g < base) (hB : ∀ b, B b → b ≠ g) {y : α} (ho : E.Own e base B w1 (M ++ [y]) u') (hgr : w.grownBy w1 u.ownBlock) (hp : Pushed u M.length w.heap.size u') (hw : Wrote g (.cells ((cs.setIfInBounds k u).setIfInBounds k u') tView (0, 0)) w1 w2) :
    Lp E e g k cs base B w0 u0 (M ++ [y]) u' w2 := by
  have hne : u'.ownBlock ≠ some g := fun e => by have := (ho.low g e).1; omega
  refine ⟨by rw [hw.at_, Array.setIfInBounds_setIfInBounds], ho.wrote hw hne hB, (h.kpt.grown hgr h.at_).wrote hw, fun q e => ?_⟩
  obtain ⟨gq, cap, rfl, hat⟩ := hp
  have e : gq = q := Option.some.inj e
  subst e
  rcases hat with h1 | h1
  · exact h.at_ gq h1
  · exact .inr (by have := h.kpt.size; omega)
theorem Lp.blkPush (h : Lp E e g k cs base B w0 u0 M u w) (hg : g < base) (hgr : w.grownBy w1 u.ownBlock) : w1.heap[g]? = some (.cells (cs.setIfInBounds k u) tView (0, 0)) :=
  (hgr.block g (Array.getElem?_eq_some_iff.1 h.blk).1 (fun e => by have := (h.own.low g e.symm).1; omega)).trans h.blk
theorem Lp.cell (h : Lp E e g k cs base B w0 u0 M u w) (hk : k < cs.size) : w.cell? ⟨g, k, none⟩ = some u := by
  rw [cell_of_blk h.blk k, Array.getElem?_setIfInBounds, if_pos rfl, if_pos hk]
end
/-- behind i rounds of a list L -/
def LpRel {α : Type} (E : ElemK α) (e : TypeId) (g k : Nat) (cs : Array Value) (base : Nat) (B : Nat → Prop) (w0 : World) (u0 : Value) (M L : List α) (p : α → Bool) (f : Nat) (t : Value) (wr : World) : Prop :=
  ∃ (i : Nat) (u : Value), t = .int .i64 (i : Nat) ∧ i ≤ L.length ∧ f = L.length - i ∧ Lp E e g k cs base B w0 u0 (M ++ (L.take i).filter p) u wr
theorem filt_step {α : Type} (p : α → Bool) (M L : List α) {i : Nat} (h : i < L.length) : (p L[i] = true → M ++ (L.take (i + 1)).filter p = M ++ (L.take i).filter p ++ [L[i]]) ∧ (p L[i] = false → M ++ (L.take (i + 1)).filter p = M ++ (L.take i).filter p) := by
  rw [List.take_succ_eq_append_getElem h, List.filter_append]
  refine ⟨fun e => ?_, fun e => ?_⟩
  · rw [List.filter_cons_of_pos e, List.filter_nil, List.append_assoc]
  · rw [List.filter_cons_of_neg (by rw [e]; decide), List.filter_nil, List.append_nil]
theorem filt_len {α : Type} (p : α → Bool) (L : List α) (i : Nat) : ((L.take i).filter p).length ≤ L.length :=
  Nat.le_trans (List.length_filter_le _ _) (by rw [List.length_take]; exact Nat.min_le_right _ _)
end Go.Proofs.YtghahghbahcpfaaGreatDoor
