/- Appending a whole list at an operation; what a list that is the call's own keeps. -/
import Derived.Test.YtghahghbahcpfaaGreatDoorSt5
namespace Go.Proofs.YtghahghbahcpfaaGreatDoor
open Go.RowKit

section
variable {P : Program} {α : Type} {E : ElemK α} {B : Nat → Prop} {o : Oper} {a : Act} {w : World} {K : Act → World → Prop} {Q : Exit → Act → World → Prop}
theorem wp_append2 (s x : Operand) (t : TypeId)
    (ho : o.op = .call { callee := .builtin .append, args := #[s, x], argTypes := #[t, t] })
    (base : Nat) (e : TypeId) (i : TypeInfo) (z : Value) (size bytes : Nat) (ht : P.underlying t = some (.slice e)) (hi : P.info? e = some i ∧ i.zero = some z ∧ i.size = size ∧ i.bytes = bytes)
    (hzs : z.cells.size = size) (hsz : 0 < size)
    (v : Value) (n : Nat) (xs : List Value) (hs : a.eval s = v) (hown : w.ownsRow base e size v n xs)
    (ad : Addr) (m c : Nat) (news : List Value) (hx : a.eval x = .slice (some ad) m c) (hl : news.length = m * size) (hnews : ∀ j u, news[j]? = some u → w.cell? (ad.add j) = some u) (h1 : news.all (·.oneCell') = true)
    (h63 : n + m ≤ maxLen) (hbytes : (n + m) * bytes ≤ 140737488355328) (hbase : base ≤ w.heap.size)
    (h : ∀ v' w', w'.ownsRow base e size v' (n + m) (xs ++ news) → w.grownBy w' v.ownBlock → (v'.ownBlock = v.ownBlock ∨ v'.ownBlock = some w.heap.size) → K (a.put o.dst v') w') : Oper.wp P o a w K Q := by
  obtain ⟨hi, hz, hsize, hby⟩ := hi
  obtain ⟨v', w', hr, h2, h3, h4⟩ := run_append_own2 (P := P) w base t o.type e i z size bytes ht hi hz hsize hby hzs hsz v n xs hown ad m c news hl hnews (List.all_eq_true.1 h1) h63 hbytes hbase
  unfold Oper.wp execOp
  simp only [ho, resolve, invoke, builtin, Sem.run_bind, Sem.run_pure, Result.andThen_ok, List.map_toArray, List.map_cons, List.map_nil, hs, hx, hr]
  exact h v' w' h2 h3 h4
theorem wp_own_all (s x : Operand) (t : TypeId) (ho : o.op = .call { callee := .builtin .append, args := #[s, x], argTypes := #[t, t] })
    (base : Nat) (e : TypeId) (i : TypeInfo) (z : Value) (bytes : Nat) (ht : P.underlying t = some (.slice e)) (hi : P.info? e = some i) (hz : i.zero = some z) (hsize : i.size = E.sz) (hby : i.bytes = bytes) (hzs : z.cells.size = E.sz)
    (L : List α) (v : Value) (hs : a.eval s = v) (hO : E.Own e base B w L v) (M : List α) (xo : Option Addr) (xc : Nat) (hM : E.Row (fun b => B b ∧ v.ownBlock ≠ some b) w M (.slice xo M.length xc)) (hx : a.eval x = .slice xo M.length xc)
    (hm : L.length + M.length ≤ maxLen) (hbytes : (L.length + M.length) * bytes ≤ 140737488355328) (hbase : base ≤ w.heap.size)
    (h : ∀ v' w', E.Own e base B w' (L ++ M) v' → w.grownBy w' v.ownBlock → K (a.put o.dst v') w') : Oper.wp P o a w K Q := by
  have hO' := hO
  obtain ⟨css, hcl, hcR, hrow⟩ := hO
  by_cases h0 : M = []
  · subst h0
    have hK2 := (h v w (by rw [List.append_nil]; exact hO') ⟨rfl, rfl, rfl, Nat.le_refl _, fun _ _ _ => rfl⟩)
    obtain ⟨vao, vcap, hv⟩ := ownsRow_form hrow
    have hle : L.length ≤ vcap := by
      rcases hrow.2 with ⟨h0, h0'⟩ | ⟨g, cap', cur, hv', _, _, hnc, _⟩
      · omega
      · rw [hv] at hv'; injection hv' with _ _ e3; omega
    have hsrc : Src P i.size t (.slice xo 0 xc) 0 [] w := by
      cases xo with
      | none => exact Src.ofNil w ht xc
      | some ad => exact Src.ofSlice w ht ad 0 xc [] (by simp) (fun j u hj => by simp at hj) (fun u hu => by cases hu)
    have hr := run_append_nothing (P := P) w t t o.type e i ht hi vao L.length vcap hle (.slice xo 0 xc) hsrc
    unfold Oper.wp execOp
    rw [hv] at hs hK2
    have hx2 : a.eval x = .slice xo 0 xc := hx
    simp only [ho, resolve, invoke, builtin, Sem.run_bind, Sem.run_pure, Result.andThen_ok, List.map_toArray, List.map_cons, List.map_nil, hs, hx2, hr]
    exact hK2
  · obtain ⟨bl, off, cs0, e0, _, _, _, _⟩ := hM.at (k := 0) (List.length_pos_iff.2 h0)
    subst e0
    obtain ⟨dss, hdl, hdR, hcell, hdn, hone⟩ := hM.flat
    have hdn2 : dss.flatten.length = M.length * E.sz := hdn
    refine wp_append2 s x t ho base e i z E.sz bytes ht ⟨hi, hz, hsize, hby⟩ hzs E.pos v L.length css.flatten hs hrow ⟨bl, off, none⟩ M.length xc dss.flatten hx hdn2 (fun j u hj => by rw [Addr.add_lit]; exact hcell j u hj) (List.all_eq_true.2 hone) hm hbytes hbase fun v' w' h1 h2 h3 => ?_
    have hpos : 0 < M.length := List.length_pos_iff.2 h0
    rcases h1.2 with ⟨hn, _⟩ | ⟨g, cap', cur, hv', h5⟩
    · omega
    · subst hv'
      refine h _ _ (ElemK.Own.pushAll hcl hcR hdl hdR h2 ?_ h1) h2
      rcases h3 with h3 | h3
      · exact .inl h3.symm
      · exact .inr (Option.some.inj h3)
end
theorem own_keepB {α : Type} {E : ElemK α} {e : TypeId} {base : Nat} {B : Nat → Prop} {w w1 : World} {L : List α} {v : Value} (h : E.Own e base B w L v) (hs : w.heap.size ≤ w1.heap.size) (hb : ∀ b, v.ownBlock = some b → w1.heap[b]? = w.heap[b]?) (hB : ∀ b, B b → b < w.heap.size → w1.heap[b]? = w.heap[b]?) : E.Own e base B w1 L v := by
  obtain ⟨css, h1, h2, h3⟩ := h
  refine ⟨css, h1, fun k a b => E.keep (h2 k a b) hs (fun b hb hl => hB b hb.1 hl), h3.1, ?_⟩
  rcases h3.2 with h4 | ⟨g, cap, cur, rfl, h5, h6, h7⟩
  · exact .inl h4
  · exact .inr ⟨g, cap, cur, rfl, h5, (hb g rfl).trans h6, h7⟩
theorem own_ty {α : Type} {E : ElemK α} {e : TypeId} {base : Nat} {B : Nat → Prop} {w : World} {L : List α} {v : Value} (h : E.Own e base B w L v) : TyAt w v e := by
  obtain ⟨css, _, _, h3⟩ := h
  exact tyAt_owns h3
theorem own_apart {α β : Type} {E : ElemK α} {F : ElemK β} {e f : TypeId} {b1 b2 : Nat} {B C : Nat → Prop} {w : World} {L : List α} {M : List β} {v u : Value} (h : E.Own e b1 B w L v) (k : F.Own f b2 C w M u) (he : e ≠ f) : ∀ q, v.ownBlock = some q → u.ownBlock ≠ some q := fun q hq hu => by
  rcases tyAt_ne (own_ty h) (own_ty k) he with h1 | h1
  · rw [h1] at hq; cases hq
  · exact h1 (hq.trans hu.symm)
theorem own_kpt {α : Type} {E : ElemK α} {e : TypeId} {base g : Nat} {B : Nat → Prop} {w w1 : World} {L : List α} {v u0 : Value} (h : E.Own e base B w L v) (k : Kpt g u0 w w1) (hg : g < base) (ha : ∀ q, v.ownBlock = some q → u0.ownBlock ≠ some q) (hB : ∀ b, B b → b ≠ g ∧ u0.ownBlock ≠ some b) : E.Own e base B w1 L v :=
  own_keepB h k.size (fun b hb => by have := h.low b hb; exact k.block b this.2 (by omega) (ha b hb)) fun b hb hl => k.block b hl (hB b hb).1 (hB b hb).2
theorem own_none {α : Type} {E : ElemK α} {e : TypeId} {p : Nat} {B : Nat → Prop} {w : World} (h : w.heap[p]? = some (.cells #[] e (0, 0))) : E.Own e p B w [] (.slice (some ⟨p, 0, none⟩) 0 0) :=
  ⟨[], rfl, fun k h _ => absurd h (Nat.not_lt_zero k), by simp, .inr ⟨p, 0, #[], rfl, Nat.le_refl _, h, Nat.le_refl _, by decide, by simp, by simp⟩⟩
end Go.Proofs.YtghahghbahcpfaaGreatDoor
