/- Two lists of variables, one of which grows; insertion step by step. -/
import Derived.Test.YtomecnncighkgaaGreatDoorMm0
import Derived.Test.YtomecnncighkgaaGreatDoorVa3
import Derived.Deep.Upon
namespace Go.Proofs.YtomecnncighkgaaGreatDoor
open Go.RowKit Go.Deep

theorem ElemK.Own.at_ {α : Type} {E : ElemK α} {e : TypeId} {base : Nat} {B : Nat → Prop} {w : World} {L : List α} {v : Value} (h : E.Own e base B w L v) {k : Nat} (hk : k < L.length) :
    ∃ g off cap cs, v = .slice (some ⟨g, off, none⟩) L.length cap ∧ v.ownBlock = some g ∧ base ≤ g ∧ g < w.heap.size ∧ (∀ j u, cs[j]? = some u → w.cell? ⟨g, off + k * E.sz + j, none⟩ = some u) ∧ E.R (fun b => B b ∧ v.ownBlock ≠ some b) w L[k] cs := by
  obtain ⟨css, h1, h2, h3⟩ := h
  have hlen : ∀ c ∈ css, c.length = E.sz := fun c hc => by
    obtain ⟨k, hk, rfl⟩ := List.getElem_of_mem hc
    exact E.len (h2 k (by omega) hk)
  have h3' := h3
  rcases h3.2 with ⟨_, h0⟩ | ⟨g, cap, cur, rfl, hbg, hg, hnc, _⟩
  · omega
  · refine ⟨g, 0, cap, css[k]'(by omega), rfl, rfl, hbg, (Array.getElem?_eq_some_iff.1 hg).1, fun j u hu => ?_, h2 k hk (by omega)⟩
    have := h3'.cells (g := g) rfl (k * E.sz + j) u (flatten_at css k (by omega) j u hlen hu)
    rw [show (⟨g, 0, none⟩ : Addr).add (k * E.sz + j) = ⟨g, k * E.sz + j, none⟩ from by unfold Addr.add; split <;> simp_all] at this
    rw [Nat.zero_add]
    exact this
structure AsSt (base : Nat) (BI : Nat → Prop) (w : World) (M acc : List VR) (v3 v5 : Value) : Prop where
  o : EVar.Own 48 base BI w M v3
  n : EVar.Own 48 base BI w acc v5
  ne : ∀ g, v3.ownBlock = some g → v5.ownBlock ≠ some g
theorem AsSt.below {base : Nat} {BI : Nat → Prop} {w w1 : World} {M acc : List VR} {v3 v5 : Value} (h : AsSt base BI w M acc v3 v5) (hb : Below w.heap.size w w1) : AsSt base BI w1 M acc v3 v5 := ⟨h.o.below hb, h.n.below hb, h.ne⟩
theorem AsSt.pushed {base : Nat} {BI : Nat → Prop} {w w1 : World} {M acc acc' : List VR} {v3 v5 v8 : Value} (h : AsSt base BI w M acc v3 v5) (hBI : ∀ b, BI b → b < base) (hown : EVar.Own 48 base BI w1 acc' v8)
    (hgrow : w.grownBy w1 v5.ownBlock) (hpu : Pushed v5 acc.length w.heap.size v8) : AsSt base BI w1 M acc' v3 v8 := by
  obtain ⟨g, cap, e8, hat⟩ := hpu
  refine ⟨h.o.kept hgrow ?_ fun b hb _ e => ?_, hown, fun k hk e => ?_⟩
  · cases hv : v3.ownBlock with
    | none => exact .inl rfl
    | some k => exact .inr fun e => h.ne k hv e.symm
  · have h1 := (h.n.low b e.symm).1
    have h2 := hBI b hb
    omega
  · rw [e8] at e
    have e : g = k := Option.some.inj e
    subst e
    rcases hat with h1 | h1
    · exact h.ne _ hk h1
    · have := (h.o.low _ hk).2; omega
/-- a thing more: what the append asks -/
theorem AsSt.elem {base : Nat} {BI B0 : Nat → Prop} {w : World} {M acc : List VR} {v3 v5 : Value} (h : AsSt base BI w M acc v3 v5) (hBI : ∀ b, BI b → b < base) {x : VR} {cs : List Value} (hx : EVar.R B0 w x cs) (h0 : ∀ b, B0 b → BI b) (o : Obj) :
    EVar.R (fun q => BI q ∧ v5.ownBlock ≠ some q) (w.alloc o) x cs ∧ AsSt base BI (w.alloc o) M acc v3 v5 := by
  have hb := (Below.refl w.heap.size w).alloc (Nat.le_refl _) o
  refine ⟨EVar.mono (ElemK.R.below hx hb) fun b hb2 => ⟨h0 b hb2, fun e => ?_⟩, h.below hb⟩
  have h1 := (h.n.low b e).1
  have h2 := hBI b (h0 b hb2)
  omega
/-- the insertion, half done -/
def InsI (x : VR) (M acc : List VR) (d : Bool) (k : Nat) : Prop := acc ++ (if d = true then M.drop k else insN nmR x (M.drop k)) = insN nmR x M ∧ acc.length ≤ k + 1
theorem InsI.start (x : VR) (M : List VR) : InsI x M [] false 0 := ⟨rfl, by simp⟩
theorem InsI.copy {x : VR} {M acc : List VR} {d : Bool} {k : Nat} (h : InsI x M acc d k) (hl : d = false → acc.length ≤ k) (hk : k < M.length) (hc : d = false → ¬ natC (nmR x) (nmR M[k]) < 0) : InsI x M (acc ++ [M[k]]) d (k + 1) := by
  refine ⟨?_, by rw [List.length_append]; have := h.2; simp; omega⟩
  rw [← h.1, List.append_assoc, List.drop_eq_getElem_cons hk]
  congr 1
  cases d with
  | true => simp
  | false =>
    rw [if_neg (by simp), if_neg (by simp), insN, if_neg (hc rfl)]
    rfl
theorem InsI.put {x : VR} {M acc : List VR} {k : Nat} (h : InsI x M acc false k) (hl : acc.length ≤ k) (hk : k < M.length) (hc : natC (nmR x) (nmR M[k]) < 0) : InsI x M (acc ++ [x]) true k := by
  refine ⟨?_, by rw [List.length_append]; simp; omega⟩
  rw [← h.1, List.append_assoc, List.drop_eq_getElem_cons hk, if_pos rfl, if_neg (by simp), insN, if_pos hc]
  rfl
theorem InsI.last {x : VR} {M acc : List VR} (h : InsI x M acc false M.length) : acc ++ [x] = insN nmR x M := by
  have := h.1
  rw [List.drop_length, if_neg (by simp)] at this
  exact this
theorem InsI.done {x : VR} {M acc : List VR} (h : InsI x M acc true M.length) : acc = insN nmR x M := by
  have := h.1
  rw [List.drop_length, if_pos rfl, List.append_nil] at this
  exact this
theorem inst_step {L : List VR} {i : Nat} (hi : i < L.length) : instF (L.take (i + 1)) = insN nmR L[i] (instF (L.take i)) := by
  unfold instF sortN
  rw [List.take_succ_eq_append_getElem hi, List.foldl_append]
  rfl
end Go.Proofs.YtomecnncighkgaaGreatDoor
/- Append of a whole list of things to a list that is the call's own. -/
namespace Go.Proofs.YtomecnncighkgaaGreatDoor
open Go.RowKit

section
variable {α : Type} {E : ElemK α} {e : TypeId} {base : Nat} {B : Nat → Prop} {w w1 : World} {L M : List α} {v : Value}
theorem ElemK.Own.pushAll {css dss : List (List Value)} {g cap n : Nat} (hl : css.length = L.length) (hR : ∀ (k : Nat) (h1 : k < L.length) (h2 : k < css.length), E.R (fun b => B b ∧ v.ownBlock ≠ some b) w L[k] css[k])
    (hm : dss.length = M.length) (hS : ∀ (k : Nat) (h1 : k < M.length) (h2 : k < dss.length), E.R (fun b => B b ∧ v.ownBlock ≠ some b) w M[k] dss[k]) (hg : w.grownBy w1 v.ownBlock) (hat : v.ownBlock = some g ∨ g = w.heap.size)
    (hown : w1.ownsRow base e E.sz (.slice (some ⟨g, 0, none⟩) n cap) (L.length + M.length) (css.flatten ++ dss.flatten)) : E.Own e base B w1 (L ++ M) (.slice (some ⟨g, 0, none⟩) n cap) := by
  have key : ∀ (y : α) (c : List Value), E.R (fun b => B b ∧ v.ownBlock ≠ some b) w y c → E.R (fun b => B b ∧ (Value.slice (some ⟨g, 0, none⟩) n cap).ownBlock ≠ some b) w1 y c := fun y c h => by
    refine E.mono (E.keep (E.lt h) hg.size fun b hb hlt => hg.block b hlt (fun e => hb.1.2 e.symm)) fun b hb => ⟨hb.1.1, fun e => ?_⟩
    have e : g = b := Option.some.inj e
    subst e
    rcases hat with h1 | h1
    · exact hb.1.2 h1
    · exact absurd hb.2 (by omega)
  refine ⟨css ++ dss, by rw [List.length_append, List.length_append, hl, hm], fun k h1 h2 => ?_, ?_⟩
  · by_cases hk : k < L.length
    · rw [List.getElem_append_left hk, List.getElem_append_left (by omega)]
      exact key _ _ (hR k hk (by omega))
    · rw [List.length_append] at h1
      rw [List.getElem_append_right (by omega), List.getElem_append_right (by omega)]
      have := key _ _ (hS (k - L.length) (by omega) (by omega))
      simpa [hl] using this
  · rw [List.length_append, List.flatten_append]
    exact hown
end
section
variable {P : Program} {α : Type} {E : ElemK α} {B : Nat → Prop} {ops : Array Oper} {rest : List Oper} {o : Oper} {a : Act} {w : World} {Q : Exit → Act → World → Prop}
theorem wpList_own_all (hgd : o.guard = none) (s x : Operand) (t : TypeId) (ho : o.op = .call { callee := .builtin .append, args := #[s, x], argTypes := #[t, t] })
    (base : Nat) (e : TypeId) (i : TypeInfo) (z : Value) (bytes : Nat) (ht : P.underlying t = some (.slice e)) (hi : P.info? e = some i) (hz : i.zero = some z) (hsize : i.size = E.sz) (hby : i.bytes = bytes) (hzs : z.cells.size = E.sz)
    (L : List α) (v : Value) (hs : a.eval s = v) (hO : E.Own e base B w L v) (M : List α) (xo : Option Addr) (xc : Nat) (hM : E.Row (fun b => B b ∧ v.ownBlock ≠ some b) w M (.slice xo M.length xc)) (hx : a.eval x = .slice xo M.length xc)
    (hm : L.length + M.length ≤ maxLen) (hbytes : (L.length + M.length) * bytes ≤ 140737488355328) (hbase : base ≤ w.heap.size)
    (h : ∀ v' w', E.Own e base B w' (L ++ M) v' → w.grownBy w' v.ownBlock → wpList P ops Q rest (a.put o.dst v') w') : wpList P ops Q (o :: rest) a w := by
  have hO' := hO
  obtain ⟨css, hcl, hcR, hrow⟩ := hO
  by_cases h0 : M = []
  · subst h0
    refine wpList_plain hgd fun K hK => ?_
    have hK2 := hK _ _ (h v w (by rw [List.append_nil]; exact hO') ⟨rfl, rfl, rfl, Nat.le_refl _, fun _ _ _ => rfl⟩)
    obtain ⟨vao, vcap, hv⟩ := ownsRow_form hrow
    have hle : L.length ≤ vcap := by
      rcases hrow.2 with ⟨h0, h0'⟩ | ⟨g, cap', cur, hv', _, _, hnc, _⟩
      · omega
      · rw [hv] at hv'; injection hv' with _ _ e3; omega
    have hsrc : Src P i.size t (.slice xo 0 xc) 0 [] w := by
      cases xo with
      | none => exact Src.ofNil w ht xc
      | some ad => exact Src.ofSlice w ht ad 0 xc [] (by simp) (fun j u hj => by simp at hj) (fun u hu => by cases hu)
    have hr := run_append_nothing (P := P) w t t o.type e i ht hi vao L.length vcap hle (.slice xo 0 xc) hsrc
    unfold Oper.wp execOp
    rw [hv] at hs hK2
    have hx2 : a.eval x = .slice xo 0 xc := hx
    simp only [ho, resolve, invoke, builtin, Sem.run_bind, Sem.run_pure, Result.andThen_ok, List.map_toArray, List.map_cons, List.map_nil, hs, hx2, hr]
    exact hK2
  · obtain ⟨bl, off, cs0, e0, _, _, _, _⟩ := hM.at (k := 0) (List.length_pos_iff.2 h0)
    subst e0
    obtain ⟨dss, hdl, hdR, hcell, hdn, hone⟩ := hM.flat
    have hdn2 : dss.flatten.length = M.length * E.sz := hdn
    refine wpList_append2 hgd s x t ho base e i z E.sz bytes ht ⟨hi, hz, hsize, hby⟩ hzs E.pos v L.length css.flatten hs hrow ⟨bl, off, none⟩ M.length xc dss.flatten hx hdn2 (fun j u hj => by rw [Addr.add_lit]; exact hcell j u hj) (List.all_eq_true.2 hone) hm hbytes hbase fun v' w' h1 h2 h3 => ?_
    have hpos : 0 < M.length := List.length_pos_iff.2 h0
    rcases h1.2 with ⟨hn, _⟩ | ⟨g, cap', cur, hv', h5⟩
    · omega
    · subst hv'
      refine h _ _ (ElemK.Own.pushAll hcl hcR hdl hdR h2 ?_ h1) h2
      rcases h3 with h3 | h3
      · exact .inl h3.symm
      · exact .inr (Option.some.inj h3)
end
end Go.Proofs.YtomecnncighkgaaGreatDoor
