/- Slices of things that lie in several cells each, with the blocks that they reach; lists that grow by append. Plain: no program in sight. -/
import Derived.Test.YtghahghbahcpfaaGreatDoorVa1
import Derived.Deep.AppendLies
import Derived.Great.BuildSlice
import Derived.OwnWalk
import Derived.Deep.RegionHeld
import Derived.StillTail
import Derived.Deep.Upon
import Derived.Sort.Grow
import Derived.Deep.Draws
namespace Go.Proofs.YtghahghbahcpfaaGreatDoor
open Go.RowKit

/-- a thing that lies in some cells behind each other, and reaches other blocks -/
structure ElemK (α : Type) where
  sz : Nat
  R : (Nat → Prop) → World → α → List Value → Prop
  pos : 0 < sz
  len : ∀ {B : Nat → Prop} {w : World} {a : α} {cs : List Value}, R B w a cs → cs.length = sz
  one : ∀ {B : Nat → Prop} {w : World} {a : α} {cs : List Value}, R B w a cs → ∀ u ∈ cs, u.oneCell' = true
  mono : ∀ {B B' : Nat → Prop} {w : World} {a : α} {cs : List Value}, R B w a cs → (∀ b, B b → B' b) → R B' w a cs
  lt : ∀ {B : Nat → Prop} {w : World} {a : α} {cs : List Value}, R B w a cs → R (fun b => B b ∧ b < w.heap.size) w a cs
  keep : ∀ {B : Nat → Prop} {w w1 : World} {a : α} {cs : List Value}, R B w a cs → w.heap.size ≤ w1.heap.size → (∀ b, B b → b < w.heap.size → w1.heap[b]? = w.heap[b]?) → R B w1 a cs

section
variable {α β : Type} (E : ElemK α) (F : ElemK β)
/-- a slice of such things that can be read; every block that it reaches meets B -/
def ElemK.Row (B : Nat → Prop) (w : World) (L : List α) (v : Value) : Prop :=
  (∃ ao cap, v = .slice ao 0 cap ∧ L = []) ∨ ∃ bl off cap, v = .slice (some ⟨bl, off, none⟩) L.length cap ∧ B bl ∧ bl < w.heap.size ∧ L.length ≤ cap ∧
    ∀ (k : Nat) (hk : k < L.length), ∃ cs, (∀ j u, cs[j]? = some u → w.cell? ⟨bl, off + k * E.sz + j, none⟩ = some u) ∧ E.R B w L[k] cs
variable {E F}
theorem ElemK.R.below {B : Nat → Prop} {w w1 : World} {a : α} {cs : List Value} (h : E.R B w a cs) (hb : Below w.heap.size w w1) : E.R B w1 a cs := E.keep h hb.size fun b _ hl => hb.block b hl
theorem ElemK.Row.mono {B B' : Nat → Prop} {w : World} {L : List α} {v : Value} (h : E.Row B w L v) (hB : ∀ b, B b → B' b) : E.Row B' w L v := by
  rcases h with h | ⟨bl, off, cap, h1, h2, h3, h4, h5⟩
  · exact .inl h
  · exact .inr ⟨bl, off, cap, h1, hB _ h2, h3, h4, fun k hk => by
      obtain ⟨cs, c1, c2⟩ := h5 k hk
      exact ⟨cs, c1, E.mono c2 hB⟩⟩
theorem ElemK.Row.lt {B : Nat → Prop} {w : World} {L : List α} {v : Value} (h : E.Row B w L v) : E.Row (fun b => B b ∧ b < w.heap.size) w L v := by
  rcases h with h | ⟨bl, off, cap, h1, h2, h3, h4, h5⟩
  · exact .inl h
  · exact .inr ⟨bl, off, cap, h1, ⟨h2, h3⟩, h3, h4, fun k hk => by
      obtain ⟨cs, c1, c2⟩ := h5 k hk
      exact ⟨cs, c1, E.lt c2⟩⟩
theorem ElemK.Row.keep {B : Nat → Prop} {w w1 : World} {L : List α} {v : Value} (h : E.Row B w L v) (hs : w.heap.size ≤ w1.heap.size) (hb : ∀ b, B b → b < w.heap.size → w1.heap[b]? = w.heap[b]?) : E.Row B w1 L v := by
  rcases h with h | ⟨bl, off, cap, h1, h2, h3, h4, h5⟩
  · exact .inl h
  · exact .inr ⟨bl, off, cap, h1, h2, Nat.lt_of_lt_of_le h3 hs, h4, fun k hk => by
      obtain ⟨cs, c1, c2⟩ := h5 k hk
      exact ⟨cs, fun j u hu => (World.cell?_of_block (a := ⟨bl, off + k * E.sz + j, none⟩) (hb bl h2 h3)).trans (c1 j u hu), E.keep c2 hs hb⟩⟩
theorem ElemK.Row.below {B : Nat → Prop} {w w1 : World} {L : List α} {v : Value} (h : E.Row B w L v) (hb : Below w.heap.size w w1) : E.Row B w1 L v := h.keep hb.size fun b _ hl => hb.block b hl
theorem ElemK.Row.form {B : Nat → Prop} {w : World} {L : List α} {v : Value} (h : E.Row B w L v) : ∃ ao cap, v = .slice ao L.length cap := by
  rcases h with ⟨ao, cap, rfl, rfl⟩ | ⟨bl, off, cap, rfl, _⟩
  · exact ⟨ao, cap, rfl⟩
  · exact ⟨_, cap, rfl⟩
theorem ElemK.Row.at {B : Nat → Prop} {w : World} {L : List α} {ao : Option Addr} {n cap : Nat} (h : E.Row B w L (.slice ao n cap)) {k : Nat} (hk : k < L.length) :
    ∃ bl off cs, ao = some ⟨bl, off, none⟩ ∧ B bl ∧ bl < w.heap.size ∧ (∀ j u, cs[j]? = some u → w.cell? ⟨bl, off + k * E.sz + j, none⟩ = some u) ∧ E.R B w L[k] cs := by
  rcases h with ⟨_, _, _, rfl⟩ | ⟨bl, off, c, e, h2, h3, h4, h5⟩
  · cases hk
  · injection e with e1 e2 e3
    obtain ⟨cs, c1, c2⟩ := h5 k hk
    exact ⟨bl, off, cs, e1, h2, h3, c1, c2⟩
theorem ElemK.Row.nil {B : Nat → Prop} {w : World} {ao : Option Addr} {cap : Nat} : E.Row B w [] (.slice ao 0 cap) := .inl ⟨ao, cap, rfl, rfl⟩

variable (E F) in
/-- slices of such things, as one cell -/
def ElemK.sl : ElemK (List α) where
  sz := 1
  R B w L cs := ∃ v, cs = [v] ∧ E.Row B w L v
  pos := by decide
  len := by rintro B w a cs ⟨v, rfl, _⟩; rfl
  one := by
    rintro B w a cs ⟨v, rfl, h⟩ u hu
    obtain ⟨ao, cap, rfl⟩ := h.form
    rw [List.mem_singleton.1 hu]
    rfl
  mono := by rintro B B' w a cs ⟨v, rfl, h⟩ hB; exact ⟨v, rfl, h.mono hB⟩
  lt := by rintro B w a cs ⟨v, rfl, h⟩; exact ⟨v, rfl, h.lt⟩
  keep := by rintro B w w1 a cs ⟨v, rfl, h⟩ hs hb; exact ⟨v, rfl, h.keep hs hb⟩
variable (E F) in
/-- one thing behind the other -/
def ElemK.two : ElemK (α × β) where
  sz := E.sz + F.sz
  R B w x cs := ∃ c1 c2, cs = c1 ++ c2 ∧ E.R B w x.1 c1 ∧ F.R B w x.2 c2
  pos := by have := E.pos; omega
  len := by rintro B w a cs ⟨c1, c2, rfl, h1, h2⟩; rw [List.length_append, E.len h1, F.len h2]
  one := by
    rintro B w a cs ⟨c1, c2, rfl, h1, h2⟩ u hu
    rcases List.mem_append.1 hu with hu | hu
    · exact E.one h1 u hu
    · exact F.one h2 u hu
  mono := by rintro B B' w a cs ⟨c1, c2, rfl, h1, h2⟩ hB; exact ⟨c1, c2, rfl, E.mono h1 hB, F.mono h2 hB⟩
  lt := by rintro B w a cs ⟨c1, c2, rfl, h1, h2⟩; exact ⟨c1, c2, rfl, E.lt h1, F.lt h2⟩
  keep := by rintro B w w1 a cs ⟨c1, c2, rfl, h1, h2⟩ hs hb; exact ⟨c1, c2, rfl, E.keep h1 hs hb, F.keep h2 hs hb⟩
end
/-- things that are one cell and reach no block -/
def cellK {α : Type} (f : α → Value) (h1 : ∀ a, (f a).oneCell' = true) : ElemK α where
  sz := 1
  R _ _ a cs := cs = [f a]
  pos := by decide
  len := by rintro B w a cs rfl; rfl
  one := by rintro B w a cs rfl u hu; rw [List.mem_singleton.1 hu]; exact h1 a
  mono := fun h _ => h
  lt := fun h => h
  keep := fun h _ _ => h
def EStr : ElemK ByteArray := cellK .string fun _ => rfl
theorem strs_row {B : Nat → Prop} {w : World} {v : Value} {ss : List ByteArray} (h : EStr.Row B w ss v) : StrsAt w v ss := by
  rcases h with h | ⟨bl, off, cap, h1, _, h3, h4, h5⟩
  · exact .inl h
  · refine .inr ⟨bl, off, cap, h1, h3, h4, fun i hi => ?_⟩
    obtain ⟨cs, c1, rfl⟩ := h5 i hi
    have := c1 0 _ rfl
    rw [show EStr.sz = 1 from rfl, Nat.mul_one, Nat.add_zero] at this
    rw [List.getD, List.getElem?_eq_getElem hi]
    exact this
theorem row_strs {w : World} {v : Value} {ss : List ByteArray} (h : StrsAt w v ss) : EStr.Row (fun b => b < w.heap.size) w ss v := by
  rcases h with h | ⟨bl, off, cap, h1, h3, h4, h5⟩
  · exact .inl h
  · refine .inr ⟨bl, off, cap, h1, h3, h3, h4, fun i hi => ⟨[.string ss[i]], fun j u hu => ?_, rfl⟩⟩
    have hj : j = 0 := by
      have := (List.getElem?_eq_some_iff.1 hu).1
      simpa using this
    subst hj
    injection hu with hu
    subst hu
    have := h5 i hi
    rw [List.getD, List.getElem?_eq_getElem hi] at this
    rw [show EStr.sz = 1 from rfl, Nat.mul_one, Nat.add_zero]
    exact this

/-! ### lists that grow by append -/
section
variable {α : Type} (E : ElemK α)
/-- a slice that is the call's own, in a row of its own, with room behind it -/
def ElemK.Own (e : TypeId) (base : Nat) (B : Nat → Prop) (w : World) (L : List α) (v : Value) : Prop :=
  ∃ css : List (List Value), css.length = L.length ∧ (∀ (k : Nat) (h1 : k < L.length) (h2 : k < css.length), E.R (fun b => B b ∧ v.ownBlock ≠ some b) w L[k] css[k]) ∧ w.ownsRow base e E.sz v L.length css.flatten
variable {E} {e : TypeId} {base : Nat} {B : Nat → Prop} {w w1 : World} {L : List α} {v : Value}
theorem ElemK.Own.nil : E.Own e base B w [] (.slice none 0 0) := ⟨[], rfl, fun k h _ => absurd h (Nat.not_lt_zero k), World.ownsRow_nil _ _ _ _⟩
theorem ElemK.Own.form (h : E.Own e base B w L v) : ∃ ao cap, v = .slice ao L.length cap := by
  obtain ⟨css, _, _, h3⟩ := h
  exact ownsRow_form h3
theorem ElemK.Own.low (h : E.Own e base B w L v) : ∀ k, v.ownBlock = some k → base ≤ k ∧ k < w.heap.size := by
  obtain ⟨css, _, _, h3⟩ := h
  exact h3.lt
theorem ElemK.Own.mono {B' : Nat → Prop} (h : E.Own e base B w L v) (hB : ∀ b, B b → B' b) : E.Own e base B' w L v := by
  obtain ⟨css, h1, h2, h3⟩ := h
  exact ⟨css, h1, fun k a b => E.mono (h2 k a b) fun b hb => ⟨hB b hb.1, hb.2⟩, h3⟩
theorem ElemK.Own.keep (h : E.Own e base B w L v) (hg : w.grownBy w1 none) : E.Own e base B w1 L v := by
  obtain ⟨css, h1, h2, h3⟩ := h
  exact ⟨css, h1, fun k a b => E.keep (h2 k a b) hg.size fun b _ hl => hg.block b hl (by simp), h3.kept hg (by cases v.ownBlock <;> simp)⟩
theorem ElemK.Own.below (h : E.Own e base B w L v) (hb : Below w.heap.size w w1) : E.Own e base B w1 L v :=
  h.keep ⟨hb.os, hb.tape, hb.output, hb.size, fun k hk _ => hb.block k hk⟩
theorem ElemK.Own.drew (h : E.Own e base B w L v) : E.Own e base B w.drew L v := h.keep ⟨rfl, rfl, rfl, Nat.le_refl _, fun _ _ _ => rfl⟩
/-- a store elsewhere -/
theorem ElemK.Own.wrote {b : Nat} {o : Obj} (h : E.Own e base B w L v) (hw : Wrote b o w w1) (hv : v.ownBlock ≠ some b) (hB : ∀ c, B c → c ≠ b) : E.Own e base B w1 L v := by
  obtain ⟨css, h1, h2, h3⟩ := h
  refine ⟨css, h1, fun k a c => E.keep (h2 k a c) (Nat.le_of_eq hw.size.symm) fun d hd _ => hw.block d (hB d hd.1), ?_⟩
  exact h3.kept (row := some b) ⟨hw.os, hw.tape, hw.output, Nat.le_of_eq hw.size.symm, fun k _ hk => hw.block k (fun e => hk (by rw [e]))⟩ (.inr hv)
/-- what is owned can be read -/
theorem flatten_at {sz : Nat} : ∀ (css : List (List Value)) (k : Nat) (hk : k < css.length) (j : Nat) (u : Value), (∀ c ∈ css, c.length = sz) → css[k][j]? = some u → css.flatten[k * sz + j]? = some u
  | c :: css, 0, _, j, u, hs, hu => by
    rw [Nat.zero_mul, Nat.zero_add, List.flatten_cons, List.getElem?_append_left (by rw [List.getElem?_eq_some_iff] at hu; exact hu.1)]
    exact hu
  | c :: css, k + 1, hk, j, u, hs, hu => by
    have hc := hs c (List.mem_cons_self ..)
    rw [List.flatten_cons, List.getElem?_append_right (by rw [hc, Nat.succ_mul]; omega), hc, show (k + 1) * sz + j - sz = k * sz + j by rw [Nat.succ_mul]; omega]
    exact flatten_at css k (by simpa using hk) j u (fun d hd => hs d (List.mem_cons_of_mem _ hd)) hu
theorem ElemK.Own.row (h : E.Own e base B w L v) {B' : Nat → Prop} (hB : ∀ b, B b → B' b) (hb : ∀ b, base ≤ b → B' b) : E.Row B' w L v := by
  obtain ⟨css, h1, h2, h3⟩ := h
  have hlen : ∀ c ∈ css, c.length = E.sz := fun c hc => by
    obtain ⟨k, hk, rfl⟩ := List.getElem_of_mem hc
    exact E.len (h2 k (by omega) hk)
  have h3' := h3
  rcases h3.2 with ⟨rfl, h0⟩ | ⟨g, cap, cur, rfl, hbg, hg, hnc, _⟩
  · have : L = [] := List.length_eq_zero_iff.1 h0
    subst this
    exact .nil
  · refine .inr ⟨g, 0, cap, rfl, hb g hbg, (Array.getElem?_eq_some_iff.1 hg).1, hnc, fun k hk => ⟨css[k]'(by omega), fun j u hu => ?_, E.mono (h2 k hk (by omega)) fun b hb => hB b hb.1⟩⟩
    have := h3'.cells (g := g) rfl (k * E.sz + j) u (flatten_at css k (by omega) j u hlen hu)
    rw [show (⟨g, 0, none⟩ : Addr).add (k * E.sz + j) = ⟨g, k * E.sz + j, none⟩ from by unfold Addr.add; split <;> simp_all] at this
    rw [Nat.zero_add]
    exact this
theorem ElemK.Own.lt (h : E.Own e base B w L v) : E.Own e base (fun b => B b ∧ b < w.heap.size) w L v := by
  obtain ⟨css, h1, h2, h3⟩ := h
  exact ⟨css, h1, fun k a b => E.mono (E.lt (h2 k a b)) fun b hb => ⟨⟨hb.1.1, hb.2⟩, hb.1.2⟩, h3⟩
/-- another row has grown -/
theorem ElemK.Own.kept {row : Option Nat} (h : E.Own e base B w L v) (hg : w.grownBy w1 row) (hv : v.ownBlock = none ∨ v.ownBlock ≠ row) (hB : ∀ b, B b → b < w.heap.size → some b ≠ row) : E.Own e base B w1 L v := by
  obtain ⟨css, h1, h2, h3⟩ := h
  exact ⟨css, h1, fun k a b => E.keep (h2 k a b) hg.size fun b hb hl => hg.block b hl (hB b hb.1 hl), h3.kept hg hv⟩
/-- the cells of a row, side by side -/
theorem list_pick {α : Type} {R : Nat → α → Prop} : ∀ n : Nat, (∀ i, i < n → ∃ q, R i q) → ∃ qs : List α, qs.length = n ∧ ∀ (i : Nat) (h : i < qs.length), R i qs[i]
  | 0, _ => ⟨[], rfl, fun i h => by cases h⟩
  | n + 1, hR => by
    obtain ⟨qs, hl, hq⟩ := list_pick n fun i hi => hR i (by omega)
    obtain ⟨q, hq'⟩ := hR n (by omega)
    refine ⟨qs ++ [q], by simp [hl], fun i h => ?_⟩
    by_cases hi : i < qs.length
    · rw [List.getElem_append_left hi]; exact hq i hi
    · have : i = n := by simp at h; omega
      subst this
      rw [List.getElem_append_right (by omega)]
      simp [hl]
      exact hq'
theorem flatten_inv {sz : Nat} : ∀ (css : List (List Value)), (∀ c ∈ css, c.length = sz) → ∀ (j : Nat) (u : Value), css.flatten[j]? = some u → ∃ (k r : Nat) (hk : k < css.length), j = k * sz + r ∧ css[k][r]? = some u
  | [], _, j, u, h => by simp at h
  | c :: css, hs, j, u, h => by
    have hc := hs c (List.mem_cons_self ..)
    rw [List.flatten_cons] at h
    by_cases hj : j < sz
    · rw [List.getElem?_append_left (by rw [hc]; exact hj)] at h
      exact ⟨0, j, by simp, by omega, h⟩
    · rw [List.getElem?_append_right (by rw [hc]; omega), hc] at h
      obtain ⟨k, r, hk, e, h2⟩ := flatten_inv css (fun d hd => hs d (List.mem_cons_of_mem _ hd)) _ u h
      exact ⟨k + 1, r, by simpa using hk, by rw [Nat.succ_mul]; omega, h2⟩
theorem flatten_len {sz : Nat} : ∀ (css : List (List Value)), (∀ c ∈ css, c.length = sz) → css.flatten.length = css.length * sz
  | [], _ => by simp
  | c :: css, hs => by
    rw [List.flatten_cons, List.length_append, flatten_len css fun d hd => hs d (List.mem_cons_of_mem _ hd), hs c (List.mem_cons_self ..), List.length_cons, Nat.succ_mul]
    omega
theorem ElemK.Row.flat {bl off n cap : Nat} (h : E.Row B w L (.slice (some ⟨bl, off, none⟩) n cap)) : ∃ css : List (List Value), css.length = L.length ∧ (∀ (k : Nat) (h1 : k < L.length) (h2 : k < css.length), E.R B w L[k] css[k]) ∧
    (∀ j u, css.flatten[j]? = some u → w.cell? ⟨bl, off + j, none⟩ = some u) ∧ css.flatten.length = L.length * E.sz ∧ ∀ u ∈ css.flatten, u.oneCell' = true := by
  obtain ⟨css, hl, hR⟩ := list_pick (R := fun k (cs : List Value) => ∃ hk : k < L.length, (∀ j u, cs[j]? = some u → w.cell? ⟨bl, off + k * E.sz + j, none⟩ = some u) ∧ E.R B w L[k] cs) L.length (fun k hk => by
    obtain ⟨bl', off', cs, e, _, _, c1, c2⟩ := h.at hk
    injection e with e
    injection e with e1 e2
    subst e1 e2
    exact ⟨cs, hk, c1, c2⟩)
  have hlen : ∀ c ∈ css, c.length = E.sz := fun c hc => by
    obtain ⟨k, hk, rfl⟩ := List.getElem_of_mem hc
    obtain ⟨_, _, h2⟩ := hR k hk
    exact E.len h2
  refine ⟨css, hl, fun k h1 h2 => (hR k h2).2.2, fun j u hu => ?_, by rw [flatten_len css hlen, hl], fun u hu => ?_⟩
  · obtain ⟨k, r, hk, rfl, h2⟩ := flatten_inv css hlen j u hu
    have := (hR k hk).2.1 r u h2
    rw [Nat.add_assoc] at this
    exact this
  · obtain ⟨c, hc, hu⟩ := List.mem_flatten.1 hu
    obtain ⟨k, hk, rfl⟩ := List.getElem_of_mem hc
    exact E.one (hR k hk).2.2 u hu
/-- one thing more -/
theorem ElemK.Own.push {css : List (List Value)} {x : α} {cs : List Value} {g cap : Nat} (hl : css.length = L.length) (hR : ∀ (k : Nat) (h1 : k < L.length) (h2 : k < css.length), E.R (fun b => B b ∧ v.ownBlock ≠ some b) w L[k] css[k])
    (hx : E.R (fun b => B b ∧ v.ownBlock ≠ some b) w x cs) (hg : w.grownBy w1 v.ownBlock) (hat : v.ownBlock = some g ∨ g = w.heap.size)
    (hown : w1.ownsRow base e E.sz (.slice (some ⟨g, 0, none⟩) (L.length + 1) cap) (L.length + 1) (css.flatten ++ cs)) : E.Own e base B w1 (L ++ [x]) (.slice (some ⟨g, 0, none⟩) (L.length + 1) cap) := by
  have key : ∀ (y : α) (c : List Value), E.R (fun b => B b ∧ v.ownBlock ≠ some b) w y c → E.R (fun b => B b ∧ (Value.slice (some ⟨g, 0, none⟩) (L.length + 1) cap).ownBlock ≠ some b) w1 y c := fun y c h => by
    refine E.mono (E.keep (E.lt h) hg.size fun b hb hlt => hg.block b hlt (fun e => hb.1.2 e.symm)) fun b hb => ⟨hb.1.1, fun e => ?_⟩
    have e : g = b := Option.some.inj e
    subst e
    rcases hat with h1 | h1
    · exact hb.1.2 h1
    · exact absurd hb.2 (by omega)
  refine ⟨css ++ [cs], by rw [List.length_append, List.length_append, hl]; rfl, fun k h1 h2 => ?_, ?_⟩
  · by_cases hk : k < L.length
    · rw [List.getElem_append_left hk, List.getElem_append_left (by omega)]
      exact key _ _ (hR k hk (by omega))
    · have : k = L.length := by rw [List.length_append] at h1; simp at h1; omega
      subst this
      rw [List.getElem_append_right (Nat.le_refl _), List.getElem_append_right (by omega)]
      simpa [hl] using key _ _ hx
  · rw [List.length_append, List.flatten_append, List.flatten_cons, List.flatten_nil, List.append_nil]
    exact hown
end
end Go.Proofs.YtghahghbahcpfaaGreatDoor
/- A slice literal of one thing that lies in several cells: one operation; its value is not reckoned. -/
namespace Go.Proofs.YtghahghbahcpfaaGreatDoor

theorem fill_one {s n : Nat} (v : Value) (cells init : Array Value) (hc : v.cells = cells) (hs : cells.size = s) (hp : 0 < s) (hn : init.size = s) (hn1 : n = s) :
    Instr.fill (fun i => some (i * n, n)) init [(0, v)] = some cells := by
  subst hn1
  have h := Great.fill_whole (s := n) hp [v] init (by intro u hu; rw [List.mem_singleton.1 hu, hc, hs]) (by simp [hn])
  have e : (([v].zipIdx 0).map fun x => (x.2, x.1)) = [(0, v)] := rfl
  rw [e] at h
  rw [h]
  simp [hc]
section
variable {P : Program} {o : Oper} {a : Act} {w : World} {K : Act → World → Prop} {Q : Exit → Act → World → Prop}
theorem wp_build1 (t e : TypeId) (x : Operand) (ho : o.op = .buildSlice t 1 #[(0, x)]) (cells : Array Value) (ie : TypeInfo) (z : Value)
    (hu : P.underlying t = some (.slice e)) (hie : P.info? e = some ie) (hz : ie.zero = some z) (s : Nat) (hsz : ie.size = s) (hsmall : s ≤ 1000) (hpos : 0 < s)
    (hx : (a.eval x).cells = cells) (hcs : cells.size = s)
    (h : K (a.put o.dst (.slice (some ⟨w.heap.size, 0, none⟩) 1 1)) (w.alloc (.cells cells e))) : o.wp P a w K Q := by
  refine wp_buildSlice t e 1 #[(0, x)] ho cells ie z hu hie hz (by rw [hsz]; omega) (by rw [hsz]; omega) ?_ h
  have e : (#[(0, x)].map fun (i, x) => (i, a.eval x)).toList = [(0, a.eval x)] := by simp
  rw [e]
  refine fill_one (a.eval x) cells _ hx hcs hpos ?_ hsz
  simp [hsz]
end
theorem wpList_build1 {P : Program} {ops : Array Oper} {rest : List Oper} {o : Oper} {a : Act} {w : World} {Q : Exit → Act → World → Prop} (hg : o.guard = none) (t e : TypeId) (x : Operand) (ho : o.op = .buildSlice t 1 #[(0, x)]) (cells : Array Value) (ie : TypeInfo) (z : Value)
    (hu : P.underlying t = some (.slice e)) (hie : P.info? e = some ie) (hz : ie.zero = some z) (s : Nat) (hsz : ie.size = s) (hsmall : s ≤ 1000) (hpos : 0 < s)
    (hx : (a.eval x).cells = cells) (hcs : cells.size = s)
    (h : wpList P ops Q rest (a.put o.dst (.slice (some ⟨w.heap.size, 0, none⟩) 1 1)) (w.alloc (.cells cells e))) : wpList P ops Q (o :: rest) a w :=
  wpList_plain hg fun _ hK => wp_build1 t e x ho cells ie z hu hie hz s hsz hsmall hpos hx hcs (hK _ _ h)
/-- a struct is what comes back -/
theorem results_row1 {P : Program} {fn : Func} {p : Tmp} {ty : TypeId} (h : fn.results = #[.cell p ty]) (tmps : Array Value) (w : World) (g : Nat) (t : TypeId) (cs : Array Value) (fr : Nat × Nat) (d : TypeDesc)
    (hp : tmps.getD p undef = .pointer (some ⟨g, 0, none⟩)) (hg : w.heap[g]? = some (.cells cs t fr))
    (hu : P.underlying ty = some d) (hd : (match d with | .struct _ | .array _ _ => true | _ => false) = true) (hi : (P.info? ty).map (·.size) = some cs.size) :
    (results fn tmps).run P w = .ok (.agg cs) w := by
  have hp' : tmps[p]?.getD undef = .pointer (some ⟨g, 0, none⟩) := by simpa using hp
  simp [results, h, hp', asAddr, run_loadVar_row w g t ty cs fr d hg hu hd hi]
end Go.Proofs.YtghahghbahcpfaaGreatDoor
/- Append of one thing to a list that is the call's own: at an operation, and in a plain region. -/
namespace Go.Proofs.YtghahghbahcpfaaGreatDoor
open Go.RowKit

/-- what is known of the slice behind the append -/
def Pushed (v : Value) (n H : Nat) (v' : Value) : Prop := ∃ g cap, v' = .slice (some ⟨g, 0, none⟩) (n + 1) cap ∧ (v.ownBlock = some g ∨ g = H)
section
variable {P : Program} {α : Type} {E : ElemK α} {B : Nat → Prop} {o : Oper} {a : Act} {w : World} {K : Act → World → Prop} {Q : Exit → Act → World → Prop}
theorem wp_own_push (s x : Operand) (t : TypeId) (ho : o.op = .call { callee := .builtin .append, args := #[s, x], argTypes := #[t, t] })
    (base : Nat) (e : TypeId) (i : TypeInfo) (z : Value) (bytes : Nat) (ht : P.underlying t = some (.slice e)) (hi : P.info? e = some i) (hz : i.zero = some z) (hsize : i.size = E.sz) (hby : i.bytes = bytes) (hzs : z.cells.size = E.sz)
    (L : List α) (v : Value) (hs : a.eval s = v) (hO : E.Own e base B w L v) (y : α) (cs : List Value) (hR : E.R (fun b => B b ∧ v.ownBlock ≠ some b) w y cs)
    (blk : Nat) (fr : Nat × Nat) (hblk : w.heap[blk]? = some (.cells cs.toArray e fr)) (hx : a.eval x = .slice (some ⟨blk, 0, none⟩) 1 1)
    (hm : L.length + 1 ≤ maxLen) (hbytes : (L.length + 1) * bytes ≤ 140737488355328) (hbase : base ≤ w.heap.size)
    (h : ∀ v' w', E.Own e base B w' (L ++ [y]) v' → w.grownBy w' v.ownBlock → Pushed v L.length w.heap.size v' → K (a.put o.dst v') w') : o.wp P a w K Q := by
  obtain ⟨css, hcl, hcR, hrow⟩ := hO
  have hlen := E.len hR
  refine wp_append_lies w s x t ho base e i z E.sz bytes ht hi hz hsize hby hzs E.pos v L.length css.flatten hs hrow ⟨blk, 0, none⟩ 1 1 cs hx (by rw [hlen, Nat.one_mul]) (World.news_of_block (cs := cs.toArray) hblk) (E.one hR) (by decide) hm hbytes hbase _ rfl ?_
  intro g cap w' hown hgrow hat _
  exact h _ _ (ElemK.Own.push hcl hcR hR hgrow hat hown) hgrow ⟨g, cap, rfl, hat⟩
theorem wpList_own_push {ops : Array Oper} {rest : List Oper} (hgd : o.guard = none) (s x : Operand) (t : TypeId) (ho : o.op = .call { callee := .builtin .append, args := #[s, x], argTypes := #[t, t] })
    (base : Nat) (e : TypeId) (i : TypeInfo) (z : Value) (bytes : Nat) (ht : P.underlying t = some (.slice e)) (hi : P.info? e = some i) (hz : i.zero = some z) (hsize : i.size = E.sz) (hby : i.bytes = bytes) (hzs : z.cells.size = E.sz)
    (L : List α) (v : Value) (hs : a.eval s = v) (hO : E.Own e base B w L v) (y : α) (cs : List Value) (hR : E.R (fun b => B b ∧ v.ownBlock ≠ some b) w y cs)
    (blk : Nat) (fr : Nat × Nat) (hblk : w.heap[blk]? = some (.cells cs.toArray e fr)) (hx : a.eval x = .slice (some ⟨blk, 0, none⟩) 1 1)
    (hm : L.length + 1 ≤ maxLen) (hbytes : (L.length + 1) * bytes ≤ 140737488355328) (hbase : base ≤ w.heap.size)
    (h : ∀ v' w', E.Own e base B w' (L ++ [y]) v' → w.grownBy w' v.ownBlock → Pushed v L.length w.heap.size v' → wpList P ops Q rest (a.put o.dst v') w') : wpList P ops Q (o :: rest) a w :=
  wpList_plain hgd fun _ hK => wp_own_push s x t ho base e i z bytes ht hi hz hsize hby hzs L v hs hO y cs hR blk fr hblk hx hm hbytes hbase fun v' w' h1 h2 h3 => hK _ _ (h v' w' h1 h2 h3)
end
theorem below_grown {B : Nat} {w w1 : World} {row : Option Nat} (hg : w.grownBy w1 row) (hB : B ≤ w.heap.size) (hr : ∀ q, row = some q → B ≤ q) : Below B w w1 :=
  ⟨hg.os, hg.tape, hg.output, hg.size, fun k hk => hg.block k (by omega) (fun e => by have := hr k e.symm; omega)⟩
theorem Pushed.form {v v' : Value} {n H : Nat} (h : Pushed v n H v') : ∃ g cap, v' = .slice (some ⟨g, 0, none⟩) (n + 1) cap := by
  obtain ⟨g, cap, e, _⟩ := h
  exact ⟨g, cap, e⟩
theorem ElemK.Own.sep {α : Type} {E : ElemK α} {e : TypeId} {base : Nat} {B : Nat → Prop} {w : World} {L : List α} {v : Value} (h : E.Own e base B w L v) : ∀ b, w.heap.size ≤ b → v.ownBlock ≠ some b := fun b hb hv => by
  have := (h.low b hv).2; omega
end Go.Proofs.YtghahghbahcpfaaGreatDoor
/- A region that draws its order, holds loads, and ends with operations that undo what the loads read: these wait for every load. -/
namespace Go.Proofs.YtghahghbahcpfaaGreatDoor

section
variable {P : Program} {ops : Array Oper} {Q : Exit → Act → World → Prop} {md : Region.Mode} {S : World → Prop} {z : Nat}

/-- whatever order is picked; behind every operation below z the condition S holds -/
def wpAnyZ (P : Program) (md : Region.Mode) (ops : Array Oper) (Q : Exit → Act → World → Prop) (S : World → Prop) (z : Nat) : Nat → Array Bool → Act → World → Prop
  | 0, listed, a, w => Region.ready md ops listed = [] ∧ Q .normal a w
  | n + 1, listed, a, w => (Region.ready md ops listed = [] → Q .normal a w) ∧
    ∀ i ∈ Region.ready md ops listed, wpOp P ops Q i (fun a' w' => (i < z → S w') ∧ wpAnyZ P md ops Q S z n (listed.setIfInBounds i true) a' w') a w
theorem wpAny_of_Z : ∀ (n : Nat) (listed : Array Bool) (a : Act) (w : World), wpAnyZ P md ops Q S z n listed a w → wpAny P md ops Q n listed a w
  | 0, _, _, _, h => h
  | n + 1, _, _, _, h => ⟨h.1, fun i hi => wpOp_mono (fun a' w' h' => wpAny_of_Z n _ a' w' h'.2) (h.2 i hi)⟩

/-- what is not listed and waited for is not ready -/
theorem not_ready_waits {i j : Nat} {listed : Array Bool} (hw : Region.waitsFor md ops j i = true) (hi : listed.getD i true = false) : j ∉ Region.ready md ops listed := fun hj => by
  obtain ⟨_, oj, hoj, hall⟩ := mem_ready.1 hj
  obtain ⟨oj', hoj', e, he, hb, hon⟩ := Region.waitsFor_spec hw
  have : oj' = oj := Option.some.inj (hoj'.symm.trans hoj)
  subst this
  have h1 := hall e he hb
  rw [hon, getD_both hi] at h1
  cases h1

/-- an operation below z that every operation from z on waits for may be taken first -/
theorem wpAnyZ_first {i : Nat} {oi : Oper} {v : Value} (hi : ops[i]? = some oi) (hsel : ∀ (j : Nat) (o : Oper) cs b, ops[j]? = some o → o.op ≠ .select cs b)
    (hQ : ∀ c a w, Q (.panic c) (a.put oi.dst v) w → Q (.panic c) a w) (hz : ∀ j, z ≤ j → j < ops.size → Region.waitsFor md ops j i = true) :
    ∀ (n : Nat) (listed : Array Bool) (a : Act) (w : World),
      (∀ j oj, ops[j]? = some oj → j ≠ i → listed.getD j true = false → (∀ e ∈ oj.after, Region.binds md e = true → e.on ≠ i) → oi.apart ops oj = true) →
      i ∈ Region.ready md ops listed → YieldsIf P ops S oi v a → S w →
      wpAnyZ P md ops Q S z n (listed.setIfInBounds i true) (a.put oi.dst v) w → wpAnyZ P md ops Q S z (n + 1) listed a w
  | n, listed, a, w, hfree, hr, hy, hS, H => by
    refine ⟨fun h => (by rw [h] at hr; cases hr), fun j hj => ?_⟩
    by_cases hji : j = i
    · subst hji; exact hy.wpOp hi hS ⟨fun _ => hS, H⟩
    · cases n with
      | zero =>
        have := ready_mono hj hji
        rw [H.1] at this
        cases this
      | succ n =>
        have h1 := H.2 j (ready_mono hj hji)
        obtain ⟨hjun, oj, hoj, hall⟩ := mem_ready.1 hj
        have hiun := (mem_ready.1 hr).1
        have hjz : j < z := Nat.lt_of_not_le fun h => not_ready_waits (hz j h (Array.getElem?_eq_some_iff.1 hoj).1) hiun hj
        have hnot : ∀ e ∈ oj.after, Region.binds md e = true → e.on ≠ i := fun e he hb heq => by
          have h2 := hall e he hb
          rw [heq, getD_both hiun] at h2
          cases h2
        have h2 := wpOp_putIf hoj (hfree j oj hoj hji hjun hnot) (fun cs b => hsel i oi cs b hi) (fun cs b => hsel j oj cs b hoj) hQ hy h1
        have hfree' : ∀ k ok, ops[k]? = some ok → k ≠ i → (listed.setIfInBounds j true).getD k true = false →
            (∀ e ∈ ok.after, Region.binds md e = true → e.on ≠ i) → oi.apart ops ok = true := fun k ok hk hki hun hno => by
          refine hfree k ok hk hki ?_ hno
          by_cases hjk : j = k
          · subst hjk; exact hjun
          · rw [getD_set_ne true hjk] at hun; exact hun
        refine wpOp_mono (fun a' w' h3 => ⟨fun _ => h3.2.1 hjz, wpAnyZ_first hi hsel hQ hz n (listed.setIfInBounds j true) a' w' hfree' (ready_mono hr (Ne.symm hji)) h3.1 (h3.2.1 hjz) ?_⟩) h2
        rw [Array.setIfInBounds_comm _ _ hji]
        exact h3.2.2

/-- every operation from z on waits for number i -/
def zWaits (md : Region.Mode) (ops : Array Oper) (z i : Nat) : Bool := (List.range ops.size).all fun j => decide (j < z) || Region.waitsFor md ops j i
theorem zWaits_spec {i : Nat} (h : zWaits md ops z i = true) (j : Nat) (hj : z ≤ j) (hs : j < ops.size) : Region.waitsFor md ops j i = true := by
  have := List.all_eq_true.1 h j (List.mem_range.2 hs)
  rw [decide_eq_false (by omega), Bool.false_or] at this
  exact this
theorem wpAnyZ_take {i : Nat} {oi : Oper} {v : Value} {n : Nat} {listed : Array Bool} {a : Act} {w : World} (hi : ops[i]? = some oi)
    (hs : Region.noSelect ops = true) (hf : Region.free md ops listed i = true) (hr : (Region.ready md ops listed).contains i = true) (hz : zWaits md ops z i = true)
    (hQ : ∀ c a w, Q (.panic c) (a.put oi.dst v) w → Q (.panic c) a w) (hy : YieldsIf P ops S oi v a) (hS : S w)
    (h : wpAnyZ P md ops Q S z n (listed.setIfInBounds i true) (a.put oi.dst v) w) : wpAnyZ P md ops Q S z (n + 1) listed a w :=
  wpAnyZ_first hi (Region.noSelect_spec hs) hQ (zWaits_spec hz) n listed a w (Region.free_spec hi hf) (by simpa using hr) hy hS h
/-- one operation alone may come up -/
theorem wpAnyZ_one {i : Nat} {o : Oper} {n : Nat} {listed : Array Bool} {a : Act} {w : World} (hr : Region.ready md ops listed = [i]) (ho : ops[i]? = some o)
    (h : ∀ K' : Act → World → Prop, Shut (∀ a w, (i < z → S w) → ((i < z → S w) → wpAnyZ P md ops Q S z n (listed.setIfInBounds i true) a w) → K' a w) → if Region.wanted o (yielded ops a.tmps) = true then Oper.wp P o a w K' Q else K' (a.put o.dst undef) w) :
    wpAnyZ P md ops Q S z (n + 1) listed a w :=
  ⟨fun h0 => (by rw [hr] at h0; cases h0), fun j hj => by
    rw [hr] at hj
    rw [List.mem_singleton.1 hj]
    exact wpOp_step ho (fun K' hK => h K' (fun a w hS hW => hK a w ⟨hS, hW hS⟩))⟩
theorem wpAnyZ_done {listed : Array Bool} {a : Act} {w : World} (hr : Region.ready md ops listed = []) (h : Q .normal a w) : ∀ n, wpAnyZ P md ops Q S z n listed a w
  | 0 => ⟨hr, h⟩
  | _ + 1 => ⟨fun _ => h, by rw [hr]; simp⟩
theorem wp_region_Z {id : Nat} {a : Act} {w : World} (z : Nat) (hm : P.follows .mixedOrders = true) (hS : S w.drew)
    (h : S w.drew → wpAnyZ P .any ops Q S z ops.size (Array.replicate ops.size false) a w.drew) : (Code.region id ops true).wp P Q a w :=
  wp_region_any hm (wpAny_of_Z _ _ _ _ (h hS))
end
end Go.Proofs.YtghahghbahcpfaaGreatDoor
/- The laws of Zreg with the operation read off a list: the elaborator finds it by itself. -/
namespace Go.Proofs.YtghahghbahcpfaaGreatDoor

section
variable {P : Program} {md : Region.Mode} {ops : Array Oper} {Q : Exit → Act → World → Prop} {S : World → Prop} {z : Nat}
theorem at_list {i : Nat} {o : Oper} (h : ops.toList[i]? = some o) : ops[i]? = some o := by rw [← Array.getElem?_toList]; exact h
theorem wpAnyZ_takeL {i : Nat} {oi : Oper} {v : Value} {n : Nat} {listed : Array Bool} {a : Act} {w : World} (hi : ops.toList[i]? = some oi)
    (hs : Region.noSelect ops = true) (hf : Region.free md ops listed i = true) (hr : (Region.ready md ops listed).contains i = true) (hz : zWaits md ops z i = true)
    (hQ : ∀ c a w, Q (.panic c) (a.put oi.dst v) w → Q (.panic c) a w) (hy : YieldsIf P ops S oi v a) (hS : S w)
    (h : wpAnyZ P md ops Q S z n (listed.setIfInBounds i true) (a.put oi.dst v) w) : wpAnyZ P md ops Q S z (n + 1) listed a w :=
  wpAnyZ_take (at_list hi) hs hf hr hz hQ hy hS h
theorem wpAnyZ_oneL {i : Nat} {o : Oper} {n : Nat} {listed : Array Bool} {a : Act} {w : World} (hr : Region.ready md ops listed = [i]) (ho : ops.toList[i]? = some o)
    (h : ∀ K' : Act → World → Prop, Shut (∀ a w, (i < z → S w) → ((i < z → S w) → wpAnyZ P md ops Q S z n (listed.setIfInBounds i true) a w) → K' a w) → if Region.wanted o (yielded ops a.tmps) = true then Oper.wp P o a w K' Q else K' (a.put o.dst undef) w) :
    wpAnyZ P md ops Q S z (n + 1) listed a w := wpAnyZ_one hr (at_list ho) h
end
end Go.Proofs.YtghahghbahcpfaaGreatDoor
/- Append of a whole list of things to a list that is the call's own. -/
namespace Go.Proofs.YtghahghbahcpfaaGreatDoor
open Go.RowKit

section
variable {α : Type} {E : ElemK α} {e : TypeId} {base : Nat} {B : Nat → Prop} {w w1 : World} {L M : List α} {v : Value}
theorem ElemK.Own.pushAll {css dss : List (List Value)} {g cap n : Nat} (hl : css.length = L.length) (hR : ∀ (k : Nat) (h1 : k < L.length) (h2 : k < css.length), E.R (fun b => B b ∧ v.ownBlock ≠ some b) w L[k] css[k])
    (hm : dss.length = M.length) (hS : ∀ (k : Nat) (h1 : k < M.length) (h2 : k < dss.length), E.R (fun b => B b ∧ v.ownBlock ≠ some b) w M[k] dss[k]) (hg : w.grownBy w1 v.ownBlock) (hat : v.ownBlock = some g ∨ g = w.heap.size)
    (hown : w1.ownsRow base e E.sz (.slice (some ⟨g, 0, none⟩) n cap) (L.length + M.length) (css.flatten ++ dss.flatten)) : E.Own e base B w1 (L ++ M) (.slice (some ⟨g, 0, none⟩) n cap) := by
  have key : ∀ (y : α) (c : List Value), E.R (fun b => B b ∧ v.ownBlock ≠ some b) w y c → E.R (fun b => B b ∧ (Value.slice (some ⟨g, 0, none⟩) n cap).ownBlock ≠ some b) w1 y c := fun y c h => by
    refine E.mono (E.keep (E.lt h) hg.size fun b hb hlt => hg.block b hlt (fun e => hb.1.2 e.symm)) fun b hb => ⟨hb.1.1, fun e => ?_⟩
    have e : g = b := Option.some.inj e
    subst e
    rcases hat with h1 | h1
    · exact hb.1.2 h1
    · exact absurd hb.2 (by omega)
  refine ⟨css ++ dss, by rw [List.length_append, List.length_append, hl, hm], fun k h1 h2 => ?_, ?_⟩
  · by_cases hk : k < L.length
    · rw [List.getElem_append_left hk, List.getElem_append_left (by omega)]
      exact key _ _ (hR k hk (by omega))
    · rw [List.length_append] at h1
      rw [List.getElem_append_right (by omega), List.getElem_append_right (by omega)]
      have := key _ _ (hS (k - L.length) (by omega) (by omega))
      simpa [hl] using this
  · rw [List.length_append, List.flatten_append]
    exact hown
end
section
variable {P : Program} {α : Type} {E : ElemK α} {B : Nat → Prop} {ops : Array Oper} {rest : List Oper} {o : Oper} {a : Act} {w : World} {Q : Exit → Act → World → Prop}
theorem wpList_own_all (hgd : o.guard = none) (s x : Operand) (t : TypeId) (ho : o.op = .call { callee := .builtin .append, args := #[s, x], argTypes := #[t, t] })
    (base : Nat) (e : TypeId) (i : TypeInfo) (z : Value) (bytes : Nat) (ht : P.underlying t = some (.slice e)) (hi : P.info? e = some i) (hz : i.zero = some z) (hsize : i.size = E.sz) (hby : i.bytes = bytes) (hzs : z.cells.size = E.sz)
    (L : List α) (v : Value) (hs : a.eval s = v) (hO : E.Own e base B w L v) (M : List α) (xo : Option Addr) (xc : Nat) (hM : E.Row (fun b => B b ∧ v.ownBlock ≠ some b) w M (.slice xo M.length xc)) (hx : a.eval x = .slice xo M.length xc)
    (hm : L.length + M.length ≤ maxLen) (hbytes : (L.length + M.length) * bytes ≤ 140737488355328) (hbase : base ≤ w.heap.size)
    (h : ∀ v' w', E.Own e base B w' (L ++ M) v' → w.grownBy w' v.ownBlock → wpList P ops Q rest (a.put o.dst v') w') : wpList P ops Q (o :: rest) a w := by
  have hO' := hO
  obtain ⟨css, hcl, hcR, hrow⟩ := hO
  by_cases h0 : M = []
  · subst h0
    refine wpList_plain hgd fun K hK => ?_
    have hK2 := hK _ _ (h v w (by rw [List.append_nil]; exact hO') ⟨rfl, rfl, rfl, Nat.le_refl _, fun _ _ _ => rfl⟩)
    obtain ⟨vao, vcap, hv⟩ := ownsRow_form hrow
    have hle : L.length ≤ vcap := by
      rcases hrow.2 with ⟨h0, h0'⟩ | ⟨g, cap', cur, hv', _, _, hnc, _⟩
      · omega
      · rw [hv] at hv'; injection hv' with _ _ e3; omega
    have hsrc : Src P i.size t (.slice xo 0 xc) 0 [] w := by
      cases xo with
      | none => exact Src.ofNil w ht xc
      | some ad => exact Src.ofSlice w ht ad 0 xc [] (by simp) (fun j u hj => by simp at hj) (fun u hu => by cases hu)
    have hr := run_append_nothing (P := P) w t t o.type e i ht hi vao L.length vcap hle (.slice xo 0 xc) hsrc
    unfold Oper.wp execOp
    rw [hv] at hs hK2
    have hx2 : a.eval x = .slice xo 0 xc := hx
    simp only [ho, resolve, invoke, builtin, Sem.run_bind, Sem.run_pure, Result.andThen_ok, List.map_toArray, List.map_cons, List.map_nil, hs, hx2, hr]
    exact hK2
  · obtain ⟨bl, off, cs0, e0, _, _, _, _⟩ := hM.at (k := 0) (List.length_pos_iff.2 h0)
    subst e0
    obtain ⟨dss, hdl, hdR, hcell, hdn, hone⟩ := hM.flat
    have hdn2 : dss.flatten.length = M.length * E.sz := hdn
    refine wpList_append2 hgd s x t ho base e i z E.sz bytes ht ⟨hi, hz, hsize, hby⟩ hzs E.pos v L.length css.flatten hs hrow ⟨bl, off, none⟩ M.length xc dss.flatten hx hdn2 (fun j u hj => by rw [Addr.add_lit]; exact hcell j u hj) (List.all_eq_true.2 hone) hm hbytes hbase fun v' w' h1 h2 h3 => ?_
    have hpos : 0 < M.length := List.length_pos_iff.2 h0
    rcases h1.2 with ⟨hn, _⟩ | ⟨g, cap', cur, hv', h5⟩
    · omega
    · subst hv'
      refine h _ _ (ElemK.Own.pushAll hcl hcR hdl hdR h2 ?_ h1) h2
      rcases h3 with h3 | h3
      · exact .inl h3.symm
      · exact .inr (Option.some.inj h3)
end
end Go.Proofs.YtghahghbahcpfaaGreatDoor
/- A drawing region whose last operations wait for all, be it by way of others. -/
namespace Go.Proofs.YtghahghbahcpfaaGreatDoor

section
variable {P : Program} {ops : Array Oper} {Q : Exit → Act → World → Prop} {md : Region.Mode} {S : World → Prop} {z : Nat}
/-- one round of what waits for number i, directly or by way of D -/
def stpD (md : Region.Mode) (ops : Array Oper) (i : Nat) (D : List Nat) : List Nat := (List.range ops.size).filter fun j => Region.waitsFor md ops j i || D.any fun m => Region.waitsFor md ops j m
def depD (md : Region.Mode) (ops : Array Oper) (i : Nat) : Nat → List Nat
  | 0 => []
  | n + 1 => stpD md ops i (depD md ops i n)
/-- D is not listed, each of it waits for i or for one of D, and all from z on are in it -/
def okD (md : Region.Mode) (ops : Array Oper) (z i : Nat) (listed : Array Bool) (D : List Nat) : Bool :=
  ((List.range ops.size).all fun j => decide (j < z) || D.contains j) && D.all fun k => !(listed.getD k true) && (Region.waitsFor md ops k i || D.any fun m => Region.waitsFor md ops k m)
theorem not_ready_D {i j : Nat} {listed : Array Bool} {D : List Nat} (hD : ∀ k ∈ D, Region.waitsFor md ops k i = true ∨ ∃ m ∈ D, Region.waitsFor md ops k m = true) (hl : ∀ k ∈ D, listed.getD k true = false) (hi : listed.getD i true = false) (hj : j ∈ D) : j ∉ Region.ready md ops listed := by
  rcases hD j hj with h | ⟨m, hm, h⟩
  · exact not_ready_waits h hi
  · exact not_ready_waits h (hl m hm)
theorem wpAnyZ_firstD {i : Nat} {oi : Oper} {v : Value} (hi : ops[i]? = some oi) (hsel : ∀ (j : Nat) (o : Oper) cs b, ops[j]? = some o → o.op ≠ .select cs b)
    (hQ : ∀ c a w, Q (.panic c) (a.put oi.dst v) w → Q (.panic c) a w) (D : List Nat) (hz : ∀ j, z ≤ j → j < ops.size → j ∈ D) (hD : ∀ k ∈ D, Region.waitsFor md ops k i = true ∨ ∃ m ∈ D, Region.waitsFor md ops k m = true) :
    ∀ (n : Nat) (listed : Array Bool) (a : Act) (w : World), (∀ k ∈ D, listed.getD k true = false) →
      (∀ j oj, ops[j]? = some oj → j ≠ i → listed.getD j true = false → (∀ e ∈ oj.after, Region.binds md e = true → e.on ≠ i) → oi.apart ops oj = true) →
      i ∈ Region.ready md ops listed → YieldsIf P ops S oi v a → S w →
      wpAnyZ P md ops Q S z n (listed.setIfInBounds i true) (a.put oi.dst v) w → wpAnyZ P md ops Q S z (n + 1) listed a w
  | n, listed, a, w, hl, hfree, hr, hy, hS, H => by
    refine ⟨fun h => (by rw [h] at hr; cases hr), fun j hj => ?_⟩
    by_cases hji : j = i
    · subst hji; exact hy.wpOp hi hS ⟨fun _ => hS, H⟩
    · cases n with
      | zero =>
        have := ready_mono hj hji
        rw [H.1] at this
        cases this
      | succ n =>
        have h1 := H.2 j (ready_mono hj hji)
        obtain ⟨hjun, oj, hoj, hall⟩ := mem_ready.1 hj
        have hiun := (mem_ready.1 hr).1
        have hjD : j ∉ D := fun hd => not_ready_D hD hl hiun hd hj
        have hjz : j < z := Nat.lt_of_not_le fun h => hjD (hz j h (Array.getElem?_eq_some_iff.1 hoj).1)
        have hnot : ∀ e ∈ oj.after, Region.binds md e = true → e.on ≠ i := fun e he hb heq => by
          have h2 := hall e he hb
          rw [heq, getD_both hiun] at h2
          cases h2
        have h2 := wpOp_putIf hoj (hfree j oj hoj hji hjun hnot) (fun cs b => hsel i oi cs b hi) (fun cs b => hsel j oj cs b hoj) hQ hy h1
        have hfree' : ∀ k ok, ops[k]? = some ok → k ≠ i → (listed.setIfInBounds j true).getD k true = false →
            (∀ e ∈ ok.after, Region.binds md e = true → e.on ≠ i) → oi.apart ops ok = true := fun k ok hk hki hun hno => by
          refine hfree k ok hk hki ?_ hno
          by_cases hjk : j = k
          · subst hjk; exact hjun
          · rw [getD_set_ne true hjk] at hun; exact hun
        have hl' : ∀ k ∈ D, (listed.setIfInBounds j true).getD k true = false := fun k hk => by
          rw [getD_set_ne true (fun e => hjD (by rw [e]; exact hk))]
          exact hl k hk
        refine wpOp_mono (fun a' w' h3 => ⟨fun _ => h3.2.1 hjz, wpAnyZ_firstD hi hsel hQ D hz hD n (listed.setIfInBounds j true) a' w' hl' hfree' (ready_mono hr (Ne.symm hji)) h3.1 (h3.2.1 hjz) ?_⟩) h2
        rw [Array.setIfInBounds_comm _ _ hji]
        exact h3.2.2
theorem wpAnyZ_takeD {i : Nat} {oi : Oper} {v : Value} {n : Nat} {listed : Array Bool} {a : Act} {w : World} (hi : ops.toList[i]? = some oi)
    (hs : Region.noSelect ops = true) (hf : Region.free md ops listed i = true) (hr : (Region.ready md ops listed).contains i = true) (hz : okD md ops z i listed (depD md ops i 6) = true)
    (hQ : ∀ c a w, Q (.panic c) (a.put oi.dst v) w → Q (.panic c) a w) (hy : YieldsIf P ops S oi v a) (hS : S w)
    (h : wpAnyZ P md ops Q S z n (listed.setIfInBounds i true) (a.put oi.dst v) w) : wpAnyZ P md ops Q S z (n + 1) listed a w := by
  unfold okD at hz
  rw [Bool.and_eq_true] at hz
  have h1 := List.all_eq_true.1 hz.1
  have h2 := List.all_eq_true.1 hz.2
  refine wpAnyZ_firstD (at_list hi) (Region.noSelect_spec hs) hQ (depD md ops i 6) (fun j hj hs => ?_) (fun k hk => ?_) n listed a w (fun k hk => ?_) (Region.free_spec (at_list hi) hf) (by simpa using hr) hy hS h
  · have := h1 j (List.mem_range.2 hs)
    rw [decide_eq_false (by omega), Bool.false_or] at this
    simpa using this
  · have := h2 k hk
    rw [Bool.and_eq_true, Bool.or_eq_true] at this
    rcases this.2 with h | h
    · exact .inl h
    · obtain ⟨m, hm, e⟩ := List.any_eq_true.1 h
      exact .inr ⟨m, hm, e⟩
  · have := h2 k hk
    rw [Bool.and_eq_true] at this
    simpa using this.1
/-- an operation that only reads is taken; what it asks is found by itself -/
theorem ztk (i : Nat) {oi : Oper} {v : Value} {n : Nat} {listed : Array Bool} {a : Act} {w : World} (h : wpAnyZ P md ops Q S z n (listed.setIfInBounds i true) (a.put oi.dst v) w)
    (hi : ops.toList[i]? = some oi := by rfl) (hs : Region.noSelect ops = true := by kernel_rfl) (hf : Region.free md ops listed i = true := by kernel_rfl) (hr : (Region.ready md ops listed).contains i = true := by kernel_rfl) (hz : okD md ops z i listed (depD md ops i 6) = true := by kernel_rfl)
    (hQ : ∀ c a w, Q (.panic c) (a.put oi.dst v) w → Q (.panic c) a w := by exact fun _ _ _ h => h) (hw : Region.wanted oi (yielded ops a.tmps) = true := by rfl)
    (hy : ∀ w, S w → (execOp a.eval oi).run P w = .ok (.value v) w := by (intro w hSw; (try dsimp only at hSw); go_simp; try with_reducible rfl)) (hS : S w := by assumption) : wpAnyZ P md ops Q S z (n + 1) listed a w :=
  wpAnyZ_takeD hi hs hf hr hz hQ (Or.inl ⟨hw, hy⟩) hS h
theorem ztl (i : Nat) {oi : Oper} {v : Value} {n : Nat} {listed : Array Bool} {a : Act} {w : World} (h : wpAnyZ P md ops Q S z n (listed.setIfInBounds i true) (a.put oi.dst v) w)
    (hi : ops.toList[i]? = some oi := by rfl) (hs : Region.noSelect ops = true := by kernel_rfl) (hf : Region.free md ops listed i = true := by kernel_rfl) (hr : (Region.ready md ops listed).contains i = true := by kernel_rfl) (hz : zWaits md ops z i = true := by kernel_rfl)
    (hQ : ∀ c a w, Q (.panic c) (a.put oi.dst v) w → Q (.panic c) a w := by exact fun _ _ _ h => h) (hw : Region.wanted oi (yielded ops a.tmps) = true := by rfl)
    (hy : ∀ w, S w → (execOp a.eval oi).run P w = .ok (.value v) w := by (intro w hSw; (try dsimp only at hSw); go_simp; try with_reducible rfl)) (hS : S w := by assumption) : wpAnyZ P md ops Q S z (n + 1) listed a w :=
  wpAnyZ_takeL hi hs hf hr hz hQ (Or.inl ⟨hw, hy⟩) hS h
theorem zA {α : Type _} (l : List α) (i : Nat) (a : α) : l.toArray.setIfInBounds i a = (l.set i a).toArray := List.setIfInBounds_toArray ..
theorem zB {α : Type _} (x : α) (l : List α) (a : α) : (x :: l).set 0 a = a :: l := List.set_cons_zero ..
theorem zC {α : Type _} (x : α) (l : List α) (n : Nat) (a : α) : (x :: l).set (n + 1) a = x :: l.set n a := List.set_cons_succ ..
end
end Go.Proofs.YtghahghbahcpfaaGreatDoor
/- Plain laws: natural order in the steps in which the walks take it. No program in sight. -/
namespace Go.Proofs.YtghahghbahcpfaaGreatDoor
open Go.RowKit

def runN (l : Bs) : Nat := (l.takeWhile digF).length
theorem run_take : ∀ l : Bs, l.takeWhile digF = l.take (runN l) ∧ l.dropWhile digF = l.drop (runN l)
  | [] => ⟨rfl, rfl⟩
  | c :: r => by
    unfold runN
    obtain ⟨h1, h2⟩ := run_take r
    unfold runN at h1 h2
    by_cases hc : digF c = true
    · rw [List.takeWhile_cons, List.dropWhile_cons, if_pos hc, if_pos hc, List.length_cons, List.take_succ_cons, List.drop_succ_cons, ← h2, ← h1]
      exact ⟨rfl, rfl⟩
    · rw [List.takeWhile_cons, List.dropWhile_cons, if_neg hc, if_neg hc]
      exact ⟨rfl, rfl⟩
theorem runN_le (l : Bs) : runN l ≤ l.length := by
  have := congrArg List.length (run_take l).1
  rw [List.length_take] at this
  unfold runN at *
  omega
theorem run_stop : ∀ (l : Bs) (n : Nat), n ≤ l.length → (∀ j, j < n → digF (l.getD j 0) = true) → (n = l.length ∨ digF (l.getD n 0) = false) → runN l = n
  | [], n, h, _, _ => by simp at h; subst h; rfl
  | c :: r, 0, _, _, hs => by
    rcases hs with h | h
    · simp at h
    · unfold runN
      rw [List.takeWhile_cons, if_neg (by simpa using h)]
      rfl
  | c :: r, n + 1, h, hd, hs => by
    have hc : digF c = true := by simpa using hd 0 (by omega)
    have := run_stop r n (by simpa using h) (fun j hj => by simpa using hd (j + 1) (by omega)) (by simpa using hs)
    unfold runN at *
    rw [List.takeWhile_cons, if_pos hc, List.length_cons, this]
theorem runN_zero {c : UInt8} {r : Bs} : (0 < runN (c :: r)) ↔ digF c = true := by
  unfold runN
  rw [List.takeWhile_cons]
  by_cases hc : digF c = true
  · simp [hc]
  · simp [hc]
theorem nat_dig {a b : Bs} (h0 : 0 < runN a) (h1 : 0 < runN b) : natC a b = if numF (a.take (runN a)) (b.take (runN b)) = 0 then natC (a.drop (runN a)) (b.drop (runN b)) else numF (a.take (runN a)) (b.take (runN b)) := by
  cases a with
  | nil => simp [runN] at h0
  | cons c a =>
    cases b with
    | nil => simp [runN] at h1
    | cons d b =>
      rw [natC_dig (runN_zero.1 h0) (runN_zero.1 h1), (run_take (c :: a)).1, (run_take (d :: b)).1, (run_take (c :: a)).2, (run_take (d :: b)).2]
theorem nat_one {a b : Bs} (ha : a ≠ []) (hb : b ≠ []) (h : ¬ (0 < runN a ∧ 0 < runN b)) : natC a b = if cmpN (a.getD 0 0).toNat (b.getD 0 0).toNat = 0 then natC (a.drop 1) (b.drop 1) else cmpN (a.getD 0 0).toNat (b.getD 0 0).toNat := by
  cases a with
  | nil => exact absurd rfl ha
  | cons c a =>
    cases b with
    | nil => exact absurd rfl hb
    | cons d b =>
      rw [natC_byte (fun k => h ⟨runN_zero.2 k.1, runN_zero.2 k.2⟩)]
      show (if c = d then natC a b else cmpN c.toNat d.toNat) = if cmpN c.toNat d.toNat = 0 then natC a b else cmpN c.toNat d.toNat
      by_cases e : c = d
      · subst e; rw [if_pos rfl, if_pos (cmpN_po.refl _)]
      · rw [if_neg e, if_neg fun h0 => e (UInt8.toNat_inj.1 (cmpN_eq h0))]

end Go.Proofs.YtghahghbahcpfaaGreatDoor
/- Worlds that have only grown: nothing old has turned, draws only add up. -/
namespace Go.Proofs.YtghahghbahcpfaaGreatDoor
open Go.RowKit

structure Up (w w' : World) : Prop where
  b : Below w.heap.size w w'
  d : w.drawn ≤ w'.drawn
theorem Up.refl (w : World) : Up w w := ⟨Below.refl _ _, Nat.le_refl _⟩
theorem Up.trans {w w1 w2 : World} (h : Up w w1) (k : Up w1 w2) : Up w w2 := ⟨h.b.trans (k.b.mono h.b.size), Nat.le_trans h.d k.d⟩
theorem Up.drew {w w1 : World} (h : Up w w1) : Up w w1.drew := ⟨h.b.drew, Nat.le_succ_of_le h.d⟩
theorem Up.alloc {w w1 : World} (h : Up w w1) (o : Obj) : Up w (w1.alloc o) := ⟨h.b.alloc h.b.size o, h.d⟩
theorem Up.grown {w w1 : World} (h : Up w w1) : ∃ q os, w1 = Go.Sort.grow (w.drewN q) os := by
  obtain ⟨⟨h1, h2, h3, h4, h5⟩, h6⟩ := h
  refine ⟨w1.drawn - w.drawn, w1.heap.extract w.heap.size w1.heap.size, ?_⟩
  have hh : w.heap ++ w1.heap.extract w.heap.size w1.heap.size = w1.heap := by
    apply Array.ext_getElem?
    intro k
    by_cases hk : k < w.heap.size
    · rw [Array.getElem?_append_left hk, ← h5 k hk]
    · rw [Array.getElem?_append_right (by omega), Array.getElem?_extract]
      by_cases hk2 : k < w1.heap.size
      · rw [if_pos (by omega)]
        congr 1
        omega
      · rw [if_neg (by omega), Array.getElem?_eq_none (by omega)]
  have hd : w.drawn + (w1.drawn - w.drawn) = w1.drawn := by omega
  cases w1 with
  | mk heap tape drawn os output =>
    cases w with
    | mk heap' tape' drawn' os' output' =>
      simp only at h1 h2 h3 hh hd
      subst h1 h2 h3
      simp only [Go.Sort.grow, World.drewN, hh, hd]
end Go.Proofs.YtghahghbahcpfaaGreatDoor
