/- The instances while they are put together: how they lie in memory. -/
import Derived.Test.YtomecnncighkgaaGreatDoorMw7
import Derived.Test.YtomecnncighkgaaGreatDoorVa5
namespace Go.Proofs.YtomecnncighkgaaGreatDoor
open Go.RowKit Go.Deep

theorem Tryz.infoVars : (Tryz.prog.info? 36).map (fun i => (i.zero, i.size, i.bytes)) = some (some (.slice none 0 0), 1, 24) := by kernel_rfl
theorem Tryz.infoVars' : ∃ i, Tryz.prog.info? 36 = some i ∧ i.zero = some (.slice none 0 0) ∧ i.size = 1 ∧ i.bytes = 24 := info_parts Tryz.infoVars
/-- the blocks that no instance reaches: the list's own box, the loop's two records, the digits -/
def BX (ob ab b : Nat) : Prop := b ≠ ob ∧ b ≠ ob + 2 ∧ b ≠ ob + 3 ∧ b ≠ ab
/-- the instances so far -/
def XO (ob ab : Nat) (L : List (List VR)) (W : World) : Prop :=
  ∃ v, W.heap[ob]? = some (.cells #[v] 23 (0, 0)) ∧ EVars.Own 36 (ob + 4) (BX ob ab) W L v ∧ v.ownBlock ≠ some ab
section
variable {ob ab : Nat} {L : List (List VR)} {W W1 : World}
theorem XO.next (h : XO ob ab L W) (hb : Below W.heap.size W W1) : XO ob ab L W1 := by
  obtain ⟨v, h1, h2, h3⟩ := h
  exact ⟨v, (hb.block _ (Array.getElem?_eq_some_iff.1 h1).1).trans h1, h2.below hb, h3⟩
theorem XO.wrote (h : XO ob ab L W) {k : Nat} {o : Obj} (hw : Wrote k o W W1) (hk : k = ob + 2 ∨ k = ob + 3 ∨ k = ab) (hab : ob + 4 ≤ ab) : XO ob ab L W1 := by
  obtain ⟨v, h1, h2, h3⟩ := h
  refine ⟨v, (hw.block _ (by omega)).trans h1, h2.wrote hw ?_ ?_, h3⟩
  · intro e
    rcases hk with rfl | rfl | rfl
    · have := (h2.low _ e).1; omega
    · have := (h2.low _ e).1; omega
    · exact h3 e
  · rintro c ⟨_, b2, b3, b4⟩ rfl
    rcases hk with hk | hk | hk
    · exact b2 hk
    · exact b3 hk
    · exact b4 hk
/-- one instance more, step by step: what the call of 'instance' has left, the slice literal, the append, the store -/
theorem XO.seven {v rv : Value} {c : List VR} {w1 W7 : World} {Bv : Nat → Prop} (h2 : EVars.Own 36 (ob + 4) (BX ob ab) W L v) (hob : ob + 4 ≤ W.heap.size) (hab : ab < W.heap.size)
    (hb1 : Below W.heap.size W w1) (hrow : EVar.Row (fun b => (Bv b ∧ b < W.heap.size) ∨ W.heap.size ≤ b) w1 c rv) (hBv : ∀ b, Bv b → BX ob ab b ∧ v.ownBlock ≠ some b) (h7 : w1.alloc (.cells #[rv] 36) = W7) :
    EVars.Own 36 (ob + 4) (BX ob ab) W7 L v ∧ EVars.R (fun q => BX ob ab q ∧ v.ownBlock ≠ some q) W7 c [rv] ∧ W7.heap[w1.heap.size]? = some (.cells #[rv] 36 (0, 0)) ∧ Below W.heap.size W W7 ∧ W.heap.size ≤ W7.heap.size := by
  have hb7 : Below w1.heap.size w1 W7 := by rw [← h7]; exact (Below.refl _ w1).alloc (Nat.le_refl _) _
  have hbw : Below W.heap.size W W7 := hb1.trans (hb7.mono hb1.size)
  refine ⟨h2.below hbw, evars_mk ((hrow.below hb7).mono fun b hb => ?_), by rw [← h7]; exact hp_new rfl, hbw, hbw.size⟩
  rcases hb with hb | hb
  · exact hBv b hb.1
  · refine ⟨⟨by omega, by omega, by omega, by omega⟩, fun e => ?_⟩
    have := (h2.low _ e).2; omega
theorem XO.eight {v v8 : Value} {c : List VR} {W7 w8 : World} (h2 : EVars.Own 36 (ob + 4) (BX ob ab) W L v) (h3 : v.ownBlock ≠ some ab) (hk : W.heap[ob]? = some (.cells #[v] 23 (0, 0))) (hab : ab < W.heap.size)
    (hb7 : Below W.heap.size W W7) (hown : EVars.Own 36 (ob + 4) (BX ob ab) w8 (L ++ [c]) v8) (hgrow : W7.grownBy w8 v.ownBlock) (hpu : Pushed v L.length W7.heap.size v8) :
    (∀ k, k < W.heap.size → v.ownBlock ≠ some k → w8.heap[k]? = W.heap[k]?) ∧ XO ob ab (L ++ [c]) (w8.setCell ⟨ob, 0, none⟩ v8) ∧ Below ob W (w8.setCell ⟨ob, 0, none⟩ v8) ∧
      (∀ k, k < W.heap.size → k ≠ ob → v.ownBlock ≠ some k → (w8.setCell ⟨ob, 0, none⟩ v8).heap[k]? = W.heap[k]?) ∧ w8.frozen? ⟨ob, 0, none⟩ = false ∧ w8.cell? ⟨ob, 0, none⟩ = some v := by
  have hl := (Array.getElem?_eq_some_iff.1 hk).1
  have hno : v.ownBlock ≠ some ob := fun e => by have := (h2.low _ e).1; omega
  have hk8 : ∀ k, k < W.heap.size → v.ownBlock ≠ some k → w8.heap[k]? = W.heap[k]? := fun k h1 h4 => (hgrow.block k (Nat.lt_of_lt_of_le h1 hb7.size) (fun e => h4 e.symm)).trans (hb7.block k h1)
  have hko := (hk8 ob hl hno).trans hk
  have hw := wrote_setCell hko 0 v8
  have hsz := hb7.size
  obtain ⟨g, cap, e8, hat⟩ := hpu
  have hg1 : ∀ k, v8.ownBlock = some k → v.ownBlock = some k ∨ k = W7.heap.size := fun k e => by
    rw [e8] at e
    have e : g = k := Option.some.inj e
    subst e
    exact hat
  refine ⟨hk8, ⟨v8, hw.at_, hown.wrote hw ?_ ?_, ?_⟩, ⟨?_, ?_, ?_, ?_, ?_⟩, ?_, free_of_blk hko 0, cell_of_blk hko 0⟩
  · intro e
    rcases hg1 _ e with e | e
    · exact hno e
    · omega
  · exact fun c hc => hc.1
  · intro e
    rcases hg1 _ e with e | e
    · exact h3 e
    · omega
  · exact hw.os.trans (hgrow.os.trans hb7.os)
  · exact hw.tape.trans (hgrow.tape.trans hb7.tape)
  · exact hw.output.trans (hgrow.output.trans hb7.output)
  · rw [hw.size]; exact Nat.le_trans hb7.size hgrow.size
  · intro k hkk
    refine (hw.block k (by omega)).trans (hk8 k (by omega) fun e => ?_)
    have := (h2.low _ e).1; omega
  · exact fun k h1 h4 h5 => (hw.block k h4).trans (hk8 k h1 h5)
end
/-- what lies while the rounds run -/
structure XM (Wa : World) (bv : Value) (rec : Loop) (ab : Nat) (L : List (List VR)) (W : World) : Prop where
  xo : XO Wa.heap.size ab L W
  ax : W.heap[Wa.heap.size + 1]? = some (.cells #[bv] 22 (0, 0))
  dd : W.heap[Wa.heap.size + 2]? = some (.deferred (some []))
  ll : W.heap[Wa.heap.size + 3]? = some (.loop rec)
  bl : Below Wa.heap.size Wa W
section
variable {Wa : World} {bv : Value} {rec : Loop} {ab : Nat} {L : List (List VR)} {W W1 : World}
theorem XM.next (h : XM Wa bv rec ab L W) (hb : Below W.heap.size W W1) : XM Wa bv rec ab L W1 := by
  have lt : ∀ {k : Nat} {o : Obj}, W.heap[k]? = some o → k < W.heap.size := fun hk => (Array.getElem?_eq_some_iff.1 hk).1
  exact ⟨h.xo.next hb, (hb.block _ (lt h.ax)).trans h.ax, (hb.block _ (lt h.dd)).trans h.dd, (hb.block _ (lt h.ll)).trans h.ll, h.bl.trans (hb.mono h.bl.size)⟩
theorem XM.digits (h : XM Wa bv rec ab L W) (hab : Wa.heap.size + 4 ≤ ab) {o : Obj} (hw : Wrote ab o W W1) : XM Wa bv rec ab L W1 :=
  ⟨h.xo.wrote hw (.inr (.inr rfl)) hab, (hw.block _ (by omega)).trans h.ax, (hw.block _ (by omega)).trans h.dd, (hw.block _ (by omega)).trans h.ll, h.bl.trans (hw.below (by omega))⟩
theorem XM.loop (h : XM Wa bv rec ab L W) (hab : Wa.heap.size + 4 ≤ ab) (rec' : Loop) : XM Wa bv rec' ab L (W.putObj (Wa.heap.size + 3) (.loop rec')) := by
  have hw := wrote_putObj (.loop rec') h.ll
  exact ⟨h.xo.wrote hw (.inr (.inl rfl)) hab, (hw.block _ (by omega)).trans h.ax, (hw.block _ (by omega)).trans h.dd, hw.at_, h.bl.trans (hw.below (by omega))⟩
/-- behind the rounds the digits no longer matter -/
theorem XM.plain (h : XM Wa bv rec ab L W) : XM Wa bv rec (Wa.heap.size + 2) L W := by
  refine ⟨?_, h.ax, h.dd, h.ll, h.bl⟩
  obtain ⟨v, h1, h2, _⟩ := h.xo
  exact ⟨v, h1, h2.mono fun b hb => ⟨hb.1, hb.2.1, hb.2.2.1, hb.2.1⟩, fun e => by have := (h2.low _ e).1; omega⟩
/-- an instance more -/
theorem XM.more (h : XM Wa bv rec ab L W) {L' : List (List VR)} {v : Value} (hO : EVars.Own 36 (Wa.heap.size + 4) (BX Wa.heap.size ab) W L v) (hx : XO Wa.heap.size ab L' W1) (hb : Below Wa.heap.size W W1)
    (hk : ∀ k, k < W.heap.size → k ≠ Wa.heap.size → v.ownBlock ≠ some k → W1.heap[k]? = W.heap[k]?) : XM Wa bv rec ab L' W1 := by
  have lt : ∀ {k : Nat} {o : Obj}, W.heap[k]? = some o → k < W.heap.size := fun hk => (Array.getElem?_eq_some_iff.1 hk).1
  have ne : ∀ k, k < Wa.heap.size + 4 → v.ownBlock ≠ some k := fun k hk e => by have := (hO.low _ e).1; omega
  exact ⟨hx, (hk _ (lt h.ax) (by omega) (ne _ (by omega))).trans h.ax, (hk _ (lt h.dd) (by omega) (ne _ (by omega))).trans h.dd, (hk _ (lt h.ll) (by omega) (ne _ (by omega))).trans h.ll, h.bl.trans hb⟩
end
end Go.Proofs.YtomecnncighkgaaGreatDoor
