/- What check lays: the rows of what each node needs and of what needs it, growing side by side; no program in sight. -/
import Derived.Test.YtfegmmafcopbpaaGreatDoorGm1
namespace Go.Proofs.YtfegmmafcopbpaaGreatDoor
open Go.RowKit

/-- two tables of rows of the call's own, no two in one block -/
structure Fam (w : World) (base n : Nat) (W : Bool → Nat → Value) (L : Bool → Nat → List Nat) : Prop where
  row : ∀ c r, r < n → IRow w base (W c r) (L c r)
  apart : ∀ c r c' r', r < n → r' < n → ¬ (c' = c ∧ r' = r) → ∀ k, (W c r).ownBlock = some k → (W c' r').ownBlock ≠ some k

def upd {β : Type} (W : Bool → Nat → β) (c : Bool) (r : Nat) (v : β) : Bool → Nat → β := fun c' r' => if c' = c ∧ r' = r then v else W c' r'
theorem upd_same {β : Type} (W : Bool → Nat → β) (c : Bool) (r : Nat) (v : β) : upd W c r v c r = v := by unfold upd; rw [if_pos ⟨rfl, rfl⟩]
theorem upd_other {β : Type} {W : Bool → Nat → β} {c c' : Bool} {r r' : Nat} {v : β} (h : ¬ (c' = c ∧ r' = r)) : upd W c r v c' r' = W c' r' := by unfold upd; rw [if_neg h]

theorem Fam.kp {w w1 : World} {base n : Nat} {W : Bool → Nat → Value} {L : Bool → Nat → List Nat} (h : Fam w base n W L) {R : Nat} {X : Nat → Prop} (hk : Kp R X w w1) (hX : ∀ c r, r < n → ∀ k, (W c r).ownBlock = some k → k < R ∧ ¬ X k) : Fam w1 base n W L :=
  ⟨fun c r hr => (h.row c r hr).kp hk (hX c r hr), h.apart⟩
theorem Fam.alloc {w : World} {base n : Nat} {W : Bool → Nat → Value} {L : Bool → Nat → List Nat} (h : Fam w base n W L) (o : Obj) : Fam (w.alloc o) base n W L :=
  ⟨fun c r hr => World.ownsRow.alloc (h.row c r hr) o, h.apart⟩
theorem Fam.drew {w : World} {base n : Nat} {W : Bool → Nat → Value} {L : Bool → Nat → List Nat} (h : Fam w base n W L) : Fam w.drew base n W L := ⟨h.row, h.apart⟩
theorem Fam.congr {w : World} {base n : Nat} {W : Bool → Nat → Value} {L L' : Bool → Nat → List Nat} (h : Fam w base n W L) (e : ∀ c r, r < n → L' c r = L c r) : Fam w base n W L' :=
  ⟨fun c r hr => by rw [e c r hr]; exact h.row c r hr, h.apart⟩
/-- a number appended to one of the rows -/
theorem Fam.add {w w1 : World} {base n : Nat} {W : Bool → Nat → Value} {L : Bool → Nat → List Nat} (h : Fam w base n W L) {c : Bool} {r x : Nat} (hr : r < n) {v : Value} (hg : w.grownBy w1 (W c r).ownBlock)
    (hv : w1.ownsRow base 3 1 v ((L c r).length + 1) ((L c r).map intV ++ [intV x])) (hb : v.ownBlock = (W c r).ownBlock ∨ v.ownBlock = some w.heap.size) : Fam w1 base n (upd W c r v) (upd L c r (L c r ++ [x])) := by
  refine ⟨fun c' r' hr' => ?_, fun c1 r1 c2 r2 h1 h2 hne k hk => ?_⟩
  · by_cases e : c' = c ∧ r' = r
    · obtain ⟨rfl, rfl⟩ := e
      rw [upd_same, upd_same]
      exact IRow.add hv
    · rw [upd_other e, upd_other e]
      refine (h.row c' r' hr').kept hg ?_
      cases hwo : (W c' r').ownBlock with
      | none => exact .inl rfl
      | some k => exact .inr fun e2 => h.apart c' r' c r hr' hr (fun q => e ⟨q.1.symm, q.2.symm⟩) k hwo e2.symm
  · have old : ∀ c' r', r' < n → ∀ k, (W c' r').ownBlock = some k → k < w.heap.size := fun c' r' hr' k hk => ((h.row c' r' hr').lt k hk).2
    by_cases e1 : c1 = c ∧ r1 = r
    · obtain ⟨rfl, rfl⟩ := e1
      rw [upd_same] at hk
      rw [upd_other hne]
      intro h3
      rcases hb with hb | hb
      · exact h.apart c1 r1 c2 r2 h1 h2 hne k (by rw [← hb]; exact hk) h3
      · rw [hb] at hk
        injection hk with hk
        have := old c2 r2 h2 k h3
        omega
    · rw [upd_other e1] at hk
      by_cases e2 : c2 = c ∧ r2 = r
      · obtain ⟨rfl, rfl⟩ := e2
        rw [upd_same]
        intro h3
        rcases hb with hb | hb
        · exact h.apart c1 r1 c2 r2 h1 h2 hne k hk (by rw [← hb]; exact h3)
        · rw [hb] at h3
          injection h3 with h3
          have := old c1 r1 h1 k hk
          omega
      · rw [upd_other e2]
        exact h.apart c1 r1 c2 r2 h1 h2 hne k hk

/-- what the rows hold once i nodes are read and j names of the next -/
def LL (G : Gr) (i j : Nat) : Bool → Nat → List Nat
  | false, r => if r < i then ab G r else if r = i then (ab G i).take j else []
  | true, r => ((List.range i).filter fun m => decide (r ∈ ab G m)) ++ if r ∈ (ab G i).take j then [i] else []

theorem LL_zero (G : Gr) (c : Bool) (r : Nat) : LL G 0 0 c r = [] := by
  cases c
  · unfold LL; simp
  · unfold LL; simp
theorem LL_next (G : Gr) (i : Nat) (c : Bool) (r : Nat) : LL G (i + 1) 0 c r = LL G i (ab G i).length c r := by
  cases c
  · show (if r < i + 1 then ab G r else if r = i + 1 then (ab G (i + 1)).take 0 else []) = if r < i then ab G r else if r = i then (ab G i).take (ab G i).length else []
    rw [List.take_length]
    by_cases h1 : r < i
    · rw [if_pos h1, if_pos (by omega)]
    · by_cases h2 : r = i
      · subst h2
        rw [if_pos (by omega), if_neg (by omega), if_pos rfl]
      · rw [if_neg (by omega), if_neg h1, if_neg h2]
        by_cases h3 : r = i + 1
        · rw [if_pos h3]; rfl
        · rw [if_neg h3]
  · show ((List.range (i + 1)).filter _) ++ (if r ∈ (ab G (i + 1)).take 0 then [i + 1] else []) = ((List.range i).filter _) ++ if r ∈ (ab G i).take (ab G i).length then [i] else []
    rw [List.take_length, if_neg (by simp), List.append_nil, List.range_succ, List.filter_append]
    congr 1
    by_cases h : r ∈ ab G i
    · simp [h]
    · simp [h]
theorem LL_step (G : Gr) {i j k : Nat} (hj : j < (ab G i).length) (hk : (ab G i).getD j 0 = k) (hn : k ∉ (ab G i).take j) (c : Bool) (r : Nat) :
    LL G i (j + 1) c r = upd (upd (LL G i j) false i (LL G i j false i ++ [k])) true k (upd (LL G i j) false i (LL G i j false i ++ [k]) true k ++ [i]) c r := by
  have htk : (ab G i).take (j + 1) = (ab G i).take j ++ [k] := by
    rw [List.take_add_one, ← hk, List.getD, List.getElem?_eq_getElem hj]; rfl
  cases c
  · rw [upd_other (by simp)]
    by_cases h : r = i
    · subst h
      rw [upd_same]
      show (if r < r then ab G r else if r = r then (ab G r).take (j + 1) else []) = (if r < r then ab G r else if r = r then (ab G r).take j else []) ++ [k]
      rw [if_neg (Nat.lt_irrefl r), if_pos rfl, if_neg (Nat.lt_irrefl r), if_pos rfl, htk]
    · rw [upd_other (by simp [h])]
      show (if r < i then ab G r else if r = i then (ab G i).take (j + 1) else []) = if r < i then ab G r else if r = i then (ab G i).take j else []
      rw [if_neg h, if_neg h]
  · by_cases h : r = k
    · subst h
      rw [upd_same, upd_other (by simp)]
      show _ ++ (if r ∈ (ab G i).take (j + 1) then [i] else []) = (_ ++ if r ∈ (ab G i).take j then [i] else []) ++ [i]
      rw [htk, if_pos (by simp), if_neg hn, List.append_nil]
    · rw [upd_other (by simp [h]), upd_other (by simp)]
      show _ ++ (if r ∈ (ab G i).take (j + 1) then [i] else []) = _ ++ if r ∈ (ab G i).take j then [i] else []
      rw [htk]
      simp only [List.mem_append, List.mem_singleton, h, or_false]
theorem LL_end (G : Gr) {r : Nat} (hr : r < G.length) : LL G G.length 0 false r = ab G r ∧ LL G G.length 0 true r = be G r := by
  constructor
  · show (if r < G.length then _ else _) = _
    rw [if_pos hr]
  · show _ ++ (if r ∈ (ab G G.length).take 0 then [G.length] else []) = _
    rw [if_neg (by simp), List.append_nil]
    rfl
theorem LL_len (G : Gr) (i j : Nat) (hi : i ≤ 1024) (hd : ∀ i, (ab G i).length ≤ 1024) (c : Bool) (r : Nat) : (LL G i j c r).length ≤ 1025 := by
  cases c
  · show (if r < i then ab G r else if r = i then (ab G i).take j else []).length ≤ 1025
    have := hd r
    have := hd i
    split
    · omega
    · split
      · rw [List.length_take]; omega
      · simp
  · show (((List.range i).filter fun m => decide (r ∈ ab G m)) ++ if r ∈ (ab G i).take j then [i] else []).length ≤ 1025
    have h1 := List.length_filter_le (fun m => decide (r ∈ ab G m)) (List.range i)
    rw [List.length_range] at h1
    rw [List.length_append]
    split
    · simp; omega
    · simp; omega

/-- the names of the first i nodes, each with its place -/
def idxTo (G : Gr) (i : Nat) : ByteArray → Option Value := fun s => if s.data.toList ∈ (idsG G).take i then some (intV (posG G s.data.toList)) else none
theorem byte_eq {s t : ByteArray} (h : s.data.toList = t.data.toList) : s = t := by
  rw [← Lib.mk_data s, ← Lib.mk_data t, h]
theorem idxTo_new {G : Gr} {i : Nat} (hi : i < G.length) {s : ByteArray} (hs : s.data.toList = idA G i) (hno : idA G i ∉ (idsG G).take i) :
    idxTo G (i + 1) s = some (intV i) ∧ ∀ t, t ≠ s → idxTo G (i + 1) t = idxTo G i t := by
  have hi' : i < (idsG G).length := by rw [ids_len]; exact hi
  have htk : (idsG G).take (i + 1) = (idsG G).take i ++ [idA G i] := by
    rw [List.take_add_one, List.getElem?_eq_getElem hi', idA_ids hi']; rfl
  constructor
  · unfold idxTo
    rw [htk, hs, if_pos (by simp)]
    congr 2
    unfold posG
    have e : idsG G = (idsG G).take i ++ idA G i :: (idsG G).drop (i + 1) := by
      rw [idA_ids hi', ← List.drop_eq_getElem_cons hi', List.take_append_drop]
    conv => lhs; rw [e]
    rw [List.idxOf_append, if_neg hno, List.idxOf_cons_self, List.length_take]
    omega
  · intro t ht
    unfold idxTo
    rw [htk]
    have : t.data.toList ≠ idA G i := fun e => ht (byte_eq (e.trans hs.symm))
    simp only [List.mem_append, List.mem_singleton, this, or_false]
theorem idxTo_zero (G : Gr) (s : ByteArray) : idxTo G 0 s = none := by unfold idxTo; simp

/-- the names seen so far -/
def seenF (l : List Bs) : ByteArray → Option Value := fun s => if s.data.toList ∈ l then some (.bool true) else none
theorem seenF_new (l : List Bs) {s : ByteArray} {b : Bs} (hs : s.data.toList = b) : seenF (l ++ [b]) s = some (.bool true) ∧ ∀ t, t ≠ s → seenF (l ++ [b]) t = seenF l t := by
  constructor
  · unfold seenF
    rw [if_pos (by simp [hs])]
  · intro t ht
    unfold seenF
    have : t.data.toList ≠ b := fun e => ht (byte_eq (e.trans hs.symm))
    simp only [List.mem_append, List.mem_singleton, this, or_false]

theorem alloc4 (w : World) (o1 o2 o3 o4 : Obj) : let w' := (((w.alloc o1).alloc o2).alloc o3).alloc o4
    w'.heap[w.heap.size]? = some o1 ∧ w'.heap[w.heap.size + 1]? = some o2 ∧ w'.heap[w.heap.size + 2]? = some o3 ∧ w'.heap[w.heap.size + 3]? = some o4 ∧ w'.heap.size = w.heap.size + 4 ∧ Below w.heap.size w w' := by
  intro w'
  have s1 : (w.alloc o1).heap.size = w.heap.size + 1 := by simp
  have s2 : ((w.alloc o1).alloc o2).heap.size = w.heap.size + 2 := by simp
  have s3 : (((w.alloc o1).alloc o2).alloc o3).heap.size = w.heap.size + 3 := by simp
  refine ⟨?_, ?_, ?_, ?_, by simp [w'], ((((Below.refl _ _).alloc (Nat.le_refl _) _).alloc (by omega) _).alloc (by omega) _).alloc (by omega) _⟩
  · rw [hp_old (by omega), hp_old (by omega), hp_old (by omega), hp_new rfl]
  · rw [hp_old (by omega), hp_old (by omega), hp_new (by omega)]
  · rw [hp_old (by omega), hp_new (by omega)]
  · rw [hp_new (by omega)]

/-- a number has been appended to row r of table c (block b), and the row's new value laid into the table -/
def PushPost (w : World) (base n b : Nat) (V : Bool → Nat → Value) (L : Bool → Nat → List Nat) (c : Bool) (r x : Nat) (w' : World) : Prop :=
  ∃ v, Kp base (· = b) w w' ∧ w'.rowIs b 40 n (upd V c r v c) ∧ Fam w' base n (upd V c r v) (upd L c r (L c r ++ [x])) ∧
    (∀ k, k < w.heap.size → k ≠ b → (V c r).ownBlock ≠ some k → w'.heap[k]? = w.heap[k]?) ∧ (v.ownBlock = (V c r).ownBlock ∨ ∃ k, v.ownBlock = some k ∧ w.heap.size ≤ k)

theorem push_post {w W w5 : World} {base n b : Nat} {V : Bool → Nat → Value} {L : Bool → Nat → List Nat} {c : Bool} {r x : Nat} {o : Obj} (hF : Fam w base n V L) (hr : r < n) (hrow : w.rowIs b 40 n (V c)) (hb : b < base) (hbase : base ≤ w.heap.size)
    (h1 : W.heap = (w.alloc o).heap) (h2 : W.os = w.os) (h3 : W.tape = w.tape) (h4 : W.output = w.output) {g1 cap1 len : Nat} {v0 : Value} (hlen : (L c r).length = len) (hv0 : V c r = v0)
    (hown : w5.ownsRow base 3 1 (.slice (some ⟨g1, 0, none⟩) (len + 1) cap1) (len + 1) ((L c r).map intV ++ [intV x])) (hg : W.grownBy w5 v0.ownBlock) (hat : v0.ownBlock = some g1 ∨ g1 = W.heap.size) :
    PushPost w base n b V L c r x (w5.setCell ⟨b, r, none⟩ (.slice (some ⟨g1, 0, none⟩) (len + 1) cap1)) := by
  subst hlen hv0
  have hsz : W.heap.size = w.heap.size + 1 := by rw [h1]; simp
  have hWk : Kp w.heap.size (fun _ => False) w W := ⟨h2, h3, h4, by omega, fun k hk _ => by rw [h1]; exact hp_old hk⟩
  have hFW : Fam W base n V L := hF.kp hWk fun c' r' hr' k hk => ⟨((hF.row c' r' hr').lt k hk).2, id⟩
  have hob : ∀ k, (V c r).ownBlock = some k → base ≤ k ∧ k < w.heap.size := fun k hk => (hF.row c r hr).lt k hk
  have hF5 := hFW.add (x := x) hr hg hown (by rcases hat with h | h; exact .inl h.symm; exact .inr (by rw [← h]; rfl))
  have hk5 : Kp base (· = b) w w5 := ((hWk.mono hbase (fun _ _ h => h.elim)).grown hg (by omega) fun k hk => .inl (hob k hk).1)
  have hs5 : W.heap.size ≤ w5.heap.size := hg.size
  have hrow5 : w5.rowIs b 40 n (V c) := by
    refine hrow.of_block ?_
    have hbW : W.heap[b]? = w.heap[b]? := by rw [h1]; exact hp_old (by omega)
    exact (hg.block b (by omega) (fun e => by have := (hob b e.symm).1; omega)).trans hbW
  refine ⟨.slice (some ⟨g1, 0, none⟩) ((L c r).length + 1) cap1, hk5.setCell b r _ (.inr rfl), ?_, ?_, ?_, ?_⟩
  · refine (hrow5.set r _).congr fun j _ => ?_
    unfold upd
    by_cases e : j = r
    · rw [if_pos e, if_pos ⟨rfl, e⟩]
    · rw [if_neg e, if_neg (fun q => e q.2)]
  · refine hF5.kp (((Kp.refl w5.heap.size (· = b) w5).setCell b r _ (.inr rfl))) fun c' r' hr' k hk => ?_
    have := (hF5.row c' r' hr').lt k hk
    exact ⟨this.2, by omega⟩
  · intro k hk hkb hko
    have e1 : (w5.setCell ⟨b, r, none⟩ (.slice (some ⟨g1, 0, none⟩) ((L c r).length + 1) cap1)).heap[k]? = w5.heap[k]? := Below.heap_setCell _ _ _ _ hkb
    rw [e1, hg.block k (by omega) (fun e => hko e.symm), h1]
    exact hp_old hk
  · rcases hat with h | h
    · exact .inl h.symm
    · exact .inr ⟨g1, rfl, by omega⟩
end Go.Proofs.YtfegmmafcopbpaaGreatDoor
