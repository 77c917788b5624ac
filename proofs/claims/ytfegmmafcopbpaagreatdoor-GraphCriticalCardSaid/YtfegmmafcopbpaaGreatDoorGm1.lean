/- Lists of nodes, of numbers, of lists of numbers in memory: laws on worlds; no program in sight. -/
import Derived.Test.YtfegmmafcopbpaaGreatDoorGr
import Derived.Test.YtfegmmafcopbpaaGreatDoorGmap
import Derived.Test.YtfegmmafcopbpaaGreatDoorIdent4
import Derived.Deep.OwnRows
namespace Go.Proofs.YtfegmmafcopbpaaGreatDoor
open Go.RowKit

/-- a slice of structs that can be read -/
def SlAt {α : Type} (sz : Nat) (f : α → List Value) (w : World) (v : Value) (xs : List α) : Prop :=
  (∃ ao cap, v = .slice ao 0 cap ∧ xs = []) ∨ ∃ b off cap, v = .slice (some ⟨b, off, none⟩) xs.length cap ∧ b < w.heap.size ∧ ∀ (k : Nat) (hk : k < xs.length) (j : Nat) (u : Value), (f xs[k])[j]? = some u → w.cell? ⟨b, off + k * sz + j, none⟩ = some u

theorem SlAt.below {α : Type} {sz : Nat} {f : α → List Value} {w w1 : World} {v : Value} {xs : List α} (h : SlAt sz f w v xs) (hb : Below w.heap.size w w1) : SlAt sz f w1 v xs := by
  rcases h with h | ⟨b, off, cap, h1, h2, h3⟩
  · exact .inl h
  · exact .inr ⟨b, off, cap, h1, Nat.lt_of_lt_of_le h2 hb.size, fun k hk j u hu => by rw [hb.cell (p := ⟨b, off + k * sz + j, none⟩) h2]; exact h3 k hk j u hu⟩

theorem SlAt.form {α : Type} {sz : Nat} {f : α → List Value} {w : World} {v : Value} {xs : List α} (h : SlAt sz f w v xs) : ∃ ao cap, v = .slice ao xs.length cap := by
  rcases h with ⟨ao, cap, rfl, rfl⟩ | ⟨b, off, cap, rfl, h2, h3⟩
  · exact ⟨_, _, rfl⟩
  · exact ⟨_, _, rfl⟩

theorem SlAt.at_ {α : Type} {sz : Nat} {f : α → List Value} {w : World} {ao : Option Addr} {n cap : Nat} {xs : List α} (h : SlAt sz f w (.slice ao n cap) xs) {k : Nat} (hk : k < xs.length) :
    ∃ b off, ao = some ⟨b, off, none⟩ ∧ b < w.heap.size ∧ ∀ (j : Nat) (u : Value), (f xs[k])[j]? = some u → w.cell? ⟨b, off + k * sz + j, none⟩ = some u := by
  rcases h with ⟨ao, cap, _, rfl⟩ | ⟨b, off, cap, e, h2, h3⟩
  · cases hk
  · injection e with e1 e2 e3
    exact ⟨b, off, e1, h2, h3 k hk⟩

theorem SlAt.of_row {α : Type} {sz : Nat} {f : α → List Value} {w : World} {base : Nat} {e : TypeId} {v : Value} {xs : List α} (h : w.ownsRow base e sz v xs.length (xs.flatMap f)) (hf : ∀ x, (f x).length = sz) (hsz : 0 < sz) : SlAt sz f w v xs := by
  by_cases h0 : xs.length = 0
  · obtain ⟨ao, cap, rfl⟩ := ownsRow_form h
    exact .inl ⟨ao, cap, by rw [h0], List.length_eq_zero_iff.1 h0⟩
  · obtain ⟨g, c, hv, hbg, hgw, _, hcs⟩ := ownsRow_at (f := f) h hf hsz (show 0 < xs.length by omega)
    refine .inr ⟨g, 0, c, hv, hgw, fun k hk j u hu => ?_⟩
    obtain ⟨g', c', hv', hbg', hgw', _, hcs'⟩ := ownsRow_at (f := f) h hf hsz hk
    rw [hv] at hv'
    injection hv' with e1 e2 e3
    injection e1 with e1
    injection e1 with e1
    subst e1
    rw [Nat.zero_add]
    exact hcs' j u hu

/-- a node in memory -/
structure Nd where
  id : ByteArray
  nv : Value
  needs : List ByteArray
instance : Inhabited Nd := ⟨⟨ByteArray.empty, .slice none 0 0, []⟩⟩
def Nd.cells (x : Nd) : List Value := [.string x.id, x.nv]
abbrev Nd.val (x : Nd) : Value := .agg #[.string x.id, x.nv]
structure NdAt (w : World) (v : Value) (ns : List Nd) : Prop where
  sl : SlAt 2 Nd.cells w v ns
  st : ∀ x ∈ ns, StrsAt w x.nv x.needs
theorem NdAt.below {w w1 : World} {v : Value} {ns : List Nd} (h : NdAt w v ns) (hb : Below w.heap.size w w1) : NdAt w1 v ns := ⟨h.sl.below hb, fun x hx => (h.st x hx).below hb⟩
theorem NdAt.at2 {w : World} {ao : Option Addr} {n cap : Nat} {ns : List Nd} (h : NdAt w (.slice ao n cap) ns) {k : Nat} (hk : k < ns.length) :
    ∃ b off, ao = some ⟨b, off, none⟩ ∧ b < w.heap.size ∧ w.cell? ⟨b, off + k * 2, none⟩ = some (.string (ns.getD k default).id) ∧ w.cell? ⟨b, off + k * 2 + 1, none⟩ = some (ns.getD k default).nv ∧ StrsAt w (ns.getD k default).nv (ns.getD k default).needs := by
  obtain ⟨b, off, h1, h2, h3⟩ := SlAt.at_ h.sl hk
  have e : ns.getD k default = ns[k] := by rw [List.getD, List.getElem?_eq_getElem hk]; rfl
  rw [e]
  exact ⟨b, off, h1, h2, h3 0 _ rfl, h3 1 _ rfl, h.st _ (List.getElem_mem hk)⟩

/-- the graph that a list of nodes says -/
def grO (ns : List Nd) : Gr := ns.map fun x => (x.id.data.toList, x.needs.map (·.data.toList))
theorem grO_len (ns : List Nd) : (grO ns).length = ns.length := by simp [grO]
theorem grO_id (ns : List Nd) {k : Nat} (hk : k < ns.length) : idA (grO ns) k = (ns.getD k default).id.data.toList := by
  unfold idA grO
  rw [List.getD, List.getD, List.getElem?_map, List.getElem?_eq_getElem hk]
  rfl
theorem grO_need (ns : List Nd) {k : Nat} (hk : k < ns.length) : needA (grO ns) k = (ns.getD k default).needs.map (·.data.toList) := by
  unfold needA grO
  rw [List.getD, List.getD, List.getElem?_map, List.getElem?_eq_getElem hk]
  rfl

theorem sound_needs {ns : List Nd} (hS : Sound (grO ns)) : ∀ x ∈ ns, x.needs.length ≤ 1000000 := by
  intro x hx
  have hm : (x.id.data.toList, x.needs.map (·.data.toList)) ∈ grO ns := List.mem_map.2 ⟨x, hx, rfl⟩
  have h1 := hS.needs _ hm
  have h2 := nodup_le (idsG (grO ns)) _ h1.2 h1.1
  have h3 := hS.len
  rw [ids_len] at h2
  simp at h2
  omega

abbrev intV (k : Nat) : Value := .int .i64 (k : Nat)
/-- a slice of numbers that can be read -/
abbrev IntsAt (w : World) (v : Value) (l : List Nat) : Prop := SlAt 1 (fun k => [intV k]) w v l
theorem IntsAt.at1 {w : World} {ao : Option Addr} {n cap : Nat} {l : List Nat} (h : IntsAt w (.slice ao n cap) l) {k : Nat} (hk : k < l.length) :
    ∃ b off, ao = some ⟨b, off, none⟩ ∧ b < w.heap.size ∧ w.cell? ⟨b, off + k, none⟩ = some (intV (l.getD k 0)) := by
  obtain ⟨b, off, h1, h2, h3⟩ := SlAt.at_ h hk
  have e : l.getD k 0 = l[k] := by rw [List.getD, List.getElem?_eq_getElem hk]; rfl
  rw [e]
  exact ⟨b, off, h1, h2, by have := h3 0 _ rfl; simpa using this⟩

/-- a slice of numbers of the call's own -/
def IRow (w : World) (base : Nat) (v : Value) (l : List Nat) : Prop := w.ownsRow base 3 1 v l.length (l.map intV)
theorem flat_one (l : List Nat) : (l.flatMap fun k => [intV k]) = l.map intV := by
  induction l with
  | nil => rfl
  | cons a l ih => rw [List.flatMap_cons, ih]; rfl
theorem IRow.at {w : World} {base : Nat} {v : Value} {l : List Nat} (h : IRow w base v l) : IntsAt w v l :=
  SlAt.of_row (sz := 1) (e := 3) (base := base) (by rw [flat_one]; exact h) (fun _ => rfl) (by omega)
theorem IRow.below {w w1 : World} {base : Nat} {v : Value} {l : List Nat} (h : IRow w base v l) (hb : Below w.heap.size w w1) : IRow w1 base v l := ownsRow_below h hb
theorem ints_one (l : List Nat) : ((l.map intV).all fun v => v.oneCell') = true := by
  rw [List.all_eq_true]
  intro x hx
  obtain ⟨k, _, rfl⟩ := List.mem_map.1 hx
  rfl

/-- a slice of n slices of numbers that can be read -/
def MatAt (w : World) (v : Value) (n : Nat) (L : Nat → List Nat) : Prop :=
  ∃ b V, v = .slice (some ⟨b, 0, none⟩) n n ∧ w.rowIs b 40 n V ∧ ∀ r, r < n → IntsAt w (V r) (L r)
theorem MatAt.below {w w1 : World} {v : Value} {n : Nat} {L : Nat → List Nat} (h : MatAt w v n L) (hb : Below w.heap.size w w1) : MatAt w1 v n L := by
  obtain ⟨b, V, h1, h2, h3⟩ := h
  exact ⟨b, V, h1, h2.of_block (hb.block _ h2.lt), fun r hr => (h3 r hr).below hb⟩

/-- blocks below R stand, but for those in X -/
structure Kp (R : Nat) (X : Nat → Prop) (w w' : World) : Prop where
  os : w'.os = w.os
  tape : w'.tape = w.tape
  output : w'.output = w.output
  size : w.heap.size ≤ w'.heap.size
  block : ∀ k, k < R → ¬ X k → w'.heap[k]? = w.heap[k]?
section
variable {R : Nat} {X : Nat → Prop} {w w1 w2 : World}
theorem Kp.refl (R : Nat) (X : Nat → Prop) (w : World) : Kp R X w w := ⟨rfl, rfl, rfl, Nat.le_refl _, fun _ _ _ => rfl⟩
theorem Kp.trans (h : Kp R X w w1) (k : Kp R X w1 w2) : Kp R X w w2 := ⟨k.os.trans h.os, k.tape.trans h.tape, k.output.trans h.output, Nat.le_trans h.size k.size, fun i hi hx => (k.block i hi hx).trans (h.block i hi hx)⟩
theorem Kp.mono {R' : Nat} {X' : Nat → Prop} (h : Kp R X w w1) (hR : R' ≤ R) (hX : ∀ k, k < R' → X k → X' k) : Kp R' X' w w1 := ⟨h.os, h.tape, h.output, h.size, fun k hk hx => h.block k (Nat.lt_of_lt_of_le hk hR) fun q => hx (hX k hk q)⟩
theorem Kp.below (h : Kp R X w w1) {B : Nat} (hB : B ≤ R) (hX : ∀ k, k < B → ¬ X k) : Below B w w1 := ⟨h.os, h.tape, h.output, h.size, fun k hk => h.block k (Nat.lt_of_lt_of_le hk hB) (hX k hk)⟩
theorem Kp.of_below (h : Below R w w1) : Kp R X w w1 := ⟨h.os, h.tape, h.output, h.size, fun k hk _ => h.block k hk⟩
theorem Kp.drew (h : Kp R X w w1) : Kp R X w w1.drew := ⟨h.os, h.tape, h.output, h.size, h.block⟩
theorem Kp.drewN (h : Kp R X w w1) (n : Nat) : Kp R X w (w1.drewN n) := ⟨h.os, h.tape, h.output, h.size, h.block⟩
theorem Kp.alloc (h : Kp R X w w1) (hR : R ≤ w1.heap.size) (o : Obj) : Kp R X w (w1.alloc o) :=
  ⟨h.os, h.tape, h.output, by show w.heap.size ≤ (w1.heap.push o).size; have := h.size; simp; omega, fun k hk hx => (hp_old (Nat.lt_of_lt_of_le hk hR)).trans (h.block k hk hx)⟩
theorem Kp.wrote (h : Kp R X w w1) {b : Nat} {o : Obj} (hw : Wrote b o w1 w2) (hb : R ≤ b ∨ X b) : Kp R X w w2 :=
  ⟨hw.os.trans h.os, hw.tape.trans h.tape, hw.output.trans h.output, by rw [hw.size]; exact h.size, fun k hk hx => (hw.block k (by rintro rfl; exact hb.elim (fun h => absurd hk (Nat.not_lt_of_le h)) hx)).trans (h.block k hk hx)⟩
theorem Kp.setCell (h : Kp R X w w1) (b j : Nat) (v : Value) (hb : R ≤ b ∨ X b) : Kp R X w (w1.setCell ⟨b, j, none⟩ v) :=
  ⟨h.os, h.tape, h.output, by show w.heap.size ≤ (w1.heap.modify b _).size; simpa using h.size, fun k hk hx => by
    have hne : k ≠ b := by rintro rfl; exact hb.elim (fun h => absurd hk (Nat.not_lt_of_le h)) hx
    rw [← h.block k hk hx]
    exact Below.heap_setCell _ _ _ _ hne⟩
theorem Kp.grown (h : Kp R X w w1) {row : Option Nat} (hg : w1.grownBy w2 row) (hR : R ≤ w1.heap.size) (hrow : ∀ b, row = some b → R ≤ b ∨ X b) : Kp R X w w2 :=
  ⟨hg.os.trans h.os, hg.tape.trans h.tape, hg.output.trans h.output, Nat.le_trans h.size hg.size, fun k hk hx => (hg.block k (Nat.lt_of_lt_of_le hk hR) (by
    intro e
    rcases hrow k e.symm with hb | hb
    · omega
    · exact hx hb)).trans (h.block k hk hx)⟩
theorem ownsRow_kp {base : Nat} {e : TypeId} {size : Nat} {v : Value} {n : Nat} {xs : List Value} (h : w.ownsRow base e size v n xs) (hk : Kp R X w w1) (hX : ∀ k, v.ownBlock = some k → k < R ∧ ¬ X k) : w1.ownsRow base e size v n xs := by
  refine ⟨h.1, ?_⟩
  rcases h.2 with h2 | ⟨g, cap, cur, hv, hb, hg, r⟩
  · exact .inl h2
  · obtain ⟨h3, h4⟩ := hX g (by rw [hv]; rfl)
    exact .inr ⟨g, cap, cur, hv, hb, by rw [hk.block g h3 h4]; exact hg, r⟩
theorem rowIs_kp {b : Nat} {t : TypeId} {n : Nat} {f : Nat → Value} (h : w.rowIs b t n f) (hk : Kp R X w w1) (hb : b < R) (hX : ¬ X b) : w1.rowIs b t n f := h.of_block (hk.block b hb hX)
end

/-- a number appended to a row of the call's own, while another row stands -/
theorem IRow.lt {w : World} {base : Nat} {v : Value} {l : List Nat} (h : IRow w base v l) : ∀ k, v.ownBlock = some k → base ≤ k ∧ k < w.heap.size := World.ownsRow.lt h
theorem IRow.form {w : World} {base : Nat} {v : Value} {l : List Nat} (h : IRow w base v l) : ∃ ao cap, v = .slice ao l.length cap := ownsRow_form h
theorem IRow.nil (w : World) (base : Nat) : IRow w base (.slice none 0 0) [] := World.ownsRow_nil _ _ _ _
theorem IRow.kp {R : Nat} {X : Nat → Prop} {w w1 : World} {base : Nat} {v : Value} {l : List Nat} (h : IRow w base v l) (hk : Kp R X w w1) (hX : ∀ k, v.ownBlock = some k → k < R ∧ ¬ X k) : IRow w1 base v l := ownsRow_kp h hk hX
theorem IRow.base {w : World} {base base' : Nat} {v : Value} {l : List Nat} (h : IRow w base v l) (hb : base' ≤ base) : IRow w base' v l := ownsRow_base h hb
theorem IRow.add {w : World} {base : Nat} {v : Value} {l : List Nat} {k : Nat} (h : w.ownsRow base 3 1 v (l.length + 1) (l.map intV ++ [intV k])) : IRow w base v (l ++ [k]) := by
  unfold IRow
  simpa using h
theorem getD_at {l : List Nat} {k : Nat} (hk : k < l.length) : l.getD k 0 ∈ l := by
  rw [List.getD, List.getElem?_eq_getElem hk]; exact List.getElem_mem hk
theorem drop_at {l : List Nat} {k : Nat} (hk : k < l.length) : l.drop k = l.getD k 0 :: l.drop (k + 1) := by
  rw [List.drop_eq_getElem_cons hk, List.getD, List.getElem?_eq_getElem hk]; rfl
end Go.Proofs.YtfegmmafcopbpaaGreatDoor
