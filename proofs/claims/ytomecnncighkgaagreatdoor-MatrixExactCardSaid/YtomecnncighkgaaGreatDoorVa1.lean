/- Small laws on worlds and on operations that load or store a whole block; no program in sight. -/
import Derived.WalkKit
import Derived.WalkSpells
import Derived.WalkLawsBesides
import Derived.RegionTactic
import Derived.ChangeAlike
import Derived.Outline
import Derived.Lib.Hide
import Derived.Laws.CopyOwn
import Derived.Lib.Strings
import Derived.Lib.IndexBytes
import Derived.Deep.LoopGhost
import Derived.Deep.DeepCutAuto
import Derived.Deep.DeepMust
import Derived.Test.YtomecnncighkgaaGreatDoorRows
import Derived.Lib.SlicesCompact
import Derived.Shelf.SlSortCmp.Insertion
namespace Go.Proofs.YtomecnncighkgaaGreatDoor
open Go.RowKit

/-- block b now holds o; nothing else has turned, no block has come -/
structure Wrote (b : Nat) (o : Obj) (w w' : World) : Prop where
  os : w'.os = w.os
  tape : w'.tape = w.tape
  output : w'.output = w.output
  size : w'.heap.size = w.heap.size
  at_ : w'.heap[b]? = some o
  block : ∀ k, k ≠ b → w'.heap[k]? = w.heap[k]?

theorem Wrote.below {b : Nat} {o : Obj} {w w' : World} (h : Wrote b o w w') {B : Nat} (hB : B ≤ b) : Below B w w' :=
  ⟨h.os, h.tape, h.output, by rw [h.size]; exact Nat.le_refl _, fun k hk => h.block k (by omega)⟩

theorem cell_of_blk {w : World} {b : Nat} {c : Array Value} {t : TypeId} {f : Nat × Nat} (h : w.heap[b]? = some (.cells c t f)) (j : Nat) : w.cell? ⟨b, j, none⟩ = c[j]? := by
  simp [World.cell?, h]
theorem free_of_blk {w : World} {b : Nat} {c : Array Value} {t : TypeId} (h : w.heap[b]? = some (.cells c t (0, 0))) (j : Nat) : w.frozen? ⟨b, j, none⟩ = false := by
  simp [World.frozen?, h]
theorem wrote_setCell {w : World} {b : Nat} {c : Array Value} {t : TypeId} {f : Nat × Nat} (h : w.heap[b]? = some (.cells c t f)) (j : Nat) (v : Value) : Wrote b (.cells (c.setIfInBounds j v) t f) w (w.setCell ⟨b, j, none⟩ v) := by
  refine ⟨rfl, rfl, rfl, by simp [World.setCell], ?_, fun k hk => Below.heap_setCell _ _ _ _ hk⟩
  simp [World.setCell, Array.getElem?_modify, h]
theorem Wrote.drew {b : Nat} {o : Obj} {w w' : World} (h : Wrote b o w w') : Wrote b o w w'.drew := ⟨h.os, h.tape, h.output, h.size, h.at_, h.block⟩
theorem Wrote.trans {b : Nat} {o o' : Obj} {w w1 w2 : World} (h : Wrote b o w w1) (h' : Wrote b o' w1 w2) : Wrote b o' w w2 :=
  ⟨h'.os.trans h.os, h'.tape.trans h.tape, h'.output.trans h.output, h'.size.trans h.size, h'.at_, fun k hk => (h'.block k hk).trans (h.block k hk)⟩

theorem hp_new {w : World} {o : Obj} {k : Nat} (h : k = w.heap.size) : (w.alloc o).heap[k]? = some o := by subst h; exact Go.heap_alloc_new w o
theorem hp_old {w : World} {o : Obj} {k : Nat} (h : k < w.heap.size) : (w.alloc o).heap[k]? = w.heap[k]? := by
  show (w.heap.push o)[k]? = w.heap[k]?
  rw [Array.getElem?_push, if_neg (Nat.ne_of_lt h)]

theorem ret_bool {a b : Bool} (h : a = b) : Ending.returned (.bool a) = .returned (.bool b) := by rw [h]
theorem ret_int {k : IntKind} {a b : Int} (h : a = b) : Ending.returned (.int k a) = .returned (.int k b) := by rw [h]

theorem iv {k : IntKind} {a b : Int} (h : a = b) : Value.int k a = .int k b := by rw [h]
theorem tup2 {a b a' b' : Value} (h : a = a') (h2 : b = b') : Ending.returned (.tuple #[a, b]) = .returned (.tuple #[a', b']) := by rw [h, h2]
theorem tup3 {a b c a' b' c' : Value} (h : a = a') (h2 : b = b') (h3 : c = c') : Ending.returned (.tuple #[a, b, c]) = .returned (.tuple #[a', b', c']) := by rw [h, h2, h3]
theorem ret2_int {k k' : IntKind} {a b c d : Int} (h : a = b) (h' : c = d) : Ending.returned (.tuple #[.int k a, .int k' c]) = .returned (.tuple #[.int k b, .int k' d]) := by rw [h, h']

theorem str_nil {s : ByteArray} (h : s.data.toList = []) : s.toList.isEmpty = true ∧ s.size = 0 := by
  rw [Lib.toList_data, Lib.size_eq, h]; exact ⟨rfl, rfl⟩
theorem str_cons {s : ByteArray} {c : UInt8} {r : List UInt8} (h : s.data.toList = c :: r) : s.toList.isEmpty = false ∧ s.size = r.length + 1 := by
  rw [Lib.toList_data, Lib.size_eq, h]; exact ⟨rfl, rfl⟩
theorem str_at {s : ByteArray} {l : List UInt8} (h : s.data.toList = l) (i : Nat) (hi : i < s.size) : s[i] = l.getD i 0 := by
  subst h
  have : s.data.toList[i]? = some s[i] := by
    rw [List.getElem?_eq_getElem (by rw [← Lib.size_eq]; exact hi)]; rfl
  rw [List.getD_eq_getElem?_getD, this]; rfl

/-- the cells of a block that has just come -/
theorem cells_new (w : World) (cs : List Value) (t : TypeId) (f : Nat × Nat) : ∀ j u, cs[j]? = some u → (w.alloc (.cells cs.toArray t f)).cell? ((⟨w.heap.size, 0, none⟩ : Addr).add j) = some u := by
  intro j u h
  have e : (⟨w.heap.size, 0, none⟩ : Addr).add j = ⟨w.heap.size, j, none⟩ := by unfold Addr.add; split <;> simp_all
  rw [e, cell_of_blk (hp_new rfl)]
  simpa using h

theorem cells_newAt {w : World} {g : Nat} (hg : g = w.heap.size) (cs : List Value) (t : TypeId) (f : Nat × Nat) : ∀ j u, cs[j]? = some u → (w.alloc (.cells cs.toArray t f)).cell? ((⟨g, 0, none⟩ : Addr).add j) = some u := by
  subst hg; exact cells_new w cs t f

/-- what is owned stays owned where nothing below the heap's size has turned -/
theorem ownsRow_below {w w1 : World} {base : Nat} {e : TypeId} {size : Nat} {v : Value} {n : Nat} {xs : List Value} (h : w.ownsRow base e size v n xs) (hb : Below w.heap.size w w1) : w1.ownsRow base e size v n xs :=
  h.kept (row := none) ⟨hb.os, hb.tape, hb.output, hb.size, fun k hk _ => hb.block k hk⟩ (by cases v.ownBlock <;> simp)

theorem ownsRow_form {w : World} {base : Nat} {e : TypeId} {size : Nat} {v : Value} {n : Nat} {xs : List Value} (h : w.ownsRow base e size v n xs) : ∃ ao cap, v = .slice ao n cap := by
  rcases h.2 with ⟨rfl, rfl⟩ | ⟨g, cap, cur, rfl, _⟩
  · exact ⟨none, 0, rfl⟩
  · exact ⟨_, cap, rfl⟩
theorem ownsRow_base {w : World} {base base' : Nat} {e : TypeId} {size : Nat} {v : Value} {n : Nat} {xs : List Value} (h : w.ownsRow base e size v n xs) (hb : base' ≤ base) : w.ownsRow base' e size v n xs := by
  refine ⟨h.1, ?_⟩
  rcases h.2 with h2 | ⟨g, cap, cur, hv, hg, r⟩
  · exact .inl h2
  · exact .inr ⟨g, cap, cur, hv, Nat.le_trans hb hg, r⟩
theorem blk2 {w : World} {b : Nat} {T : TypeId} {v0 v1 : Value} (h : w.heap[b]? = some (.cells #[v0, v1] T (0, 0))) :
    w.cell? ⟨b, 0, none⟩ = some v0 ∧ w.cell? ⟨b, 1, none⟩ = some v1 ∧ w.frozen? ⟨b, 0, none⟩ = false ∧ w.frozen? ⟨b, 1, none⟩ = false := by
  refine ⟨?_, ?_, free_of_blk h _, free_of_blk h _⟩ <;> (rw [cell_of_blk h]; rfl)
theorem ownsRow_wrote {w w1 : World} {base b : Nat} {o : Obj} {e : TypeId} {size : Nat} {v : Value} {n : Nat} {xs : List Value} (h : w.ownsRow base e size v n xs) (hw : Wrote b o w w1) (hb : b < base) : w1.ownsRow base e size v n xs := by
  refine h.kept (row := some b) ⟨hw.os, hw.tape, hw.output, by rw [hw.size]; exact Nat.le_refl _, fun k _ hk => hw.block k (by rintro rfl; exact hk rfl)⟩ ?_
  cases hv : v.ownBlock with
  | none => exact .inl rfl
  | some k => right; have := (h.lt k hv).1; simp; omega

/-- append to what is owned: as the library's law, and the block is the old one or has just come -/
theorem run_append_own2 {P : Program} (w : World) (base : Nat) (t ty e : TypeId) (i : TypeInfo) (z : Value) (size bytes : Nat) (ht : P.underlying t = some (.slice e)) (hi : P.info? e = some i) (hz : i.zero = some z)
    (hsize : i.size = size) (hby : i.bytes = bytes) (hzs : z.cells.size = size) (hsz : 0 < size)
    (v : Value) (n : Nat) (xs : List Value) (hown : w.ownsRow base e size v n xs)
    (a : Addr) (m c : Nat) (news : List Value) (hl : news.length = m * size) (hnews : ∀ j u, news[j]? = some u → w.cell? (a.add j) = some u) (h1 : ∀ u ∈ news, u.oneCell' = true)
    (h63 : n + m ≤ maxLen) (hbytes : (n + m) * bytes ≤ 140737488355328) (hbase : base ≤ w.heap.size) :
    ∃ v' w', (Builtin.append_ #[t, t] ty #[v, .slice (some a) m c]).run P w = .ok v' w' ∧ w'.ownsRow base e size v' (n + m) (xs ++ news) ∧ w.grownBy w' v.ownBlock ∧ (v'.ownBlock = v.ownBlock ∨ v'.ownBlock = some w.heap.size) := by
  obtain ⟨v', w', hr, h2, h3, h4⟩ := run_append_own (P := P) w base t ty e i z size bytes ht hi hz hsize hby hzs hsz v n xs hown a m c news hl hnews h1 h63 hbytes hbase
  refine ⟨v', w', hr, h2, h3, ?_⟩
  subst hsize
  subst hby
  have hsmall : n + m ≤ 9223372036854775807 := by simp only [maxLen] at h63; omega
  rcases hown.2 with ⟨rfl, rfl⟩ | ⟨g, cap, cur, rfl, hbg, hg, hnc, hcm, hcs, htake⟩
  · by_cases hm : m = 0
    · subst hm
      rw [h4.2 ⟨rfl, rfl⟩]
      exact .inl rfl
    · have hr' := run_append_nil (P := P) w t ty e i z ht hi hz a m c news hl hnews (by omega) (by omega) (by have hb := hbytes; simp only [Nat.zero_add] at hb; omega)
      rw [hr'] at hr
      injection hr with e1 e2
      rw [← e1]
      exact .inr rfl
  · by_cases hroom : n + m ≤ cap
    · have hfit : n * i.size + news.length ≤ cur.size := by rw [hl, hcs, ← Nat.add_mul]; exact Nat.mul_le_mul_right _ hroom
      have hr' := run_append_room (P := P) w t ty e i ht hi g n cap cur hg a m c news hl hnews h1 hroom hfit
      rw [hr'] at hr
      injection hr with e1 e2
      rw [← e1]
      exact .inl rfl
    · have holds : ∀ j u, xs[j]? = some u → w.cell? ((⟨g, 0, none⟩ : Addr).add j) = some u := hown.cells (g := g) rfl
      have hr' := run_append_grow (P := P) w t ty e i z ht hi hz ⟨g, 0, none⟩ n cap xs hown.1 holds a m c news hl hnews (by omega) (by omega) (growslice_fits (by omega) hbytes)
      rw [hr'] at hr
      injection hr with e1 e2
      rw [← e1]
      exact .inr rfl

theorem wpList_append2 {P : Program} {ops : Array Oper} {rest : List Oper} {o : Oper} {a : Act} {w : World} {Q : Exit → Act → World → Prop} (hgd : o.guard = none) (s x : Operand) (t : TypeId)
    (ho : o.op = .call { callee := .builtin .append, args := #[s, x], argTypes := #[t, t] })
    (base : Nat) (e : TypeId) (i : TypeInfo) (z : Value) (size bytes : Nat) (ht : P.underlying t = some (.slice e)) (hi : P.info? e = some i ∧ i.zero = some z ∧ i.size = size ∧ i.bytes = bytes)
    (hzs : z.cells.size = size) (hsz : 0 < size)
    (v : Value) (n : Nat) (xs : List Value) (hs : a.eval s = v) (hown : w.ownsRow base e size v n xs)
    (ad : Addr) (m c : Nat) (news : List Value) (hx : a.eval x = .slice (some ad) m c) (hl : news.length = m * size) (hnews : ∀ j u, news[j]? = some u → w.cell? (ad.add j) = some u) (h1 : news.all (·.oneCell') = true)
    (h63 : n + m ≤ maxLen) (hbytes : (n + m) * bytes ≤ 140737488355328) (hbase : base ≤ w.heap.size)
    (h : ∀ v' w', w'.ownsRow base e size v' (n + m) (xs ++ news) → w.grownBy w' v.ownBlock → (v'.ownBlock = v.ownBlock ∨ v'.ownBlock = some w.heap.size) → wpList P ops Q rest (a.put o.dst v') w') : wpList P ops Q (o :: rest) a w := by
  refine wpList_plain hgd fun K hK => ?_
  obtain ⟨hi, hz, hsize, hby⟩ := hi
  obtain ⟨v', w', hr, h2, h3, h4⟩ := run_append_own2 (P := P) w base t o.type e i z size bytes ht hi hz hsize hby hzs hsz v n xs hown ad m c news hl hnews (List.all_eq_true.1 h1) h63 hbytes hbase
  unfold Oper.wp execOp
  simp only [ho, resolve, invoke, builtin, Sem.run_bind, Sem.run_pure, Result.andThen_ok, List.map_toArray, List.map_cons, List.map_nil, hs, hx, hr]
  exact hK _ _ (h v' w' h2 h3 h4)

/-- the cells of the k-th element of what is owned -/
theorem flatMap_at {α : Type} {f : α → List Value} {sz : Nat} (hf : ∀ x, (f x).length = sz) : ∀ (L : List α) (k : Nat) (hk : k < L.length) (j : Nat) (u : Value), (f L[k])[j]? = some u → (L.flatMap f)[k * sz + j]? = some u := by
  intro L
  induction L with
  | nil => intro k hk; cases hk
  | cons x L ih =>
    intro k hk j u hu
    cases k with
    | zero =>
      simp only [List.getElem_cons_zero] at hu
      simp only [Nat.zero_mul, Nat.zero_add, List.flatMap_cons]
      rw [List.getElem?_append_left (by rw [List.getElem?_eq_some_iff] at hu; exact hu.1)]
      exact hu
    | succ k =>
      simp only [List.getElem_cons_succ] at hu
      have hk' : k < L.length := by simpa using hk
      rw [List.flatMap_cons, List.getElem?_append_right (by rw [hf, Nat.succ_mul]; omega), hf]
      rw [show (k + 1) * sz + j - sz = k * sz + j by rw [Nat.succ_mul]; omega]
      exact ih k hk' j u hu

theorem ownsRow_at {w : World} {base : Nat} {e : TypeId} {sz n : Nat} {v : Value} {α : Type} {f : α → List Value} {L : List α} (h : w.ownsRow base e sz v n (L.flatMap f)) (hf : ∀ x, (f x).length = sz) (hsz : 0 < sz) {k : Nat} (hk : k < L.length) :
    ∃ g cap, v = .slice (some ⟨g, 0, none⟩) n cap ∧ base ≤ g ∧ g < w.heap.size ∧ k < n ∧ ∀ j u, (f L[k])[j]? = some u → w.cell? ⟨g, k * sz + j, none⟩ = some u := by
  have hlen : n * sz = L.length * sz := by
    rw [← h.1]
    clear h hk
    induction L with
    | nil => simp
    | cons x L ih => rw [List.flatMap_cons, List.length_append, ih, hf, List.length_cons, Nat.succ_mul]; omega
  have hnl : n = L.length := Nat.eq_of_mul_eq_mul_right hsz hlen
  have hxs := h
  rcases h.2 with ⟨rfl, rfl⟩ | ⟨g, cap, cur, rfl, hb, hg, hr⟩
  · omega
  · refine ⟨g, cap, rfl, hb, (Array.getElem?_eq_some_iff.1 hg).1, by omega, ?_⟩
    intro j u hu
    have := hxs.cells (g := g) rfl (k * sz + j) u (flatMap_at hf L k hk j u hu)
    have e : (⟨g, 0, none⟩ : Addr).add (k * sz + j) = ⟨g, k * sz + j, none⟩ := by unfold Addr.add; split <;> simp_all
    rwa [e] at this

section
variable {P : Program} {ops : Array Oper} {rest : List Oper} {o : Oper} {a : Act} {w : World} {Q : Exit → Act → World → Prop}

/-- a whole struct or array is stored into the block that is its own -/
theorem wpList_store_row (hgd : o.guard = none) (ty : TypeId) (x y : Operand) (ho : o.op = .store ty x y)
    (g : Nat) (hx : a.eval x = .pointer (some ⟨g, 0, none⟩)) (t : TypeId) (cur : Array Value) (hg : w.heap[g]? = some (.cells cur t (0, 0)))
    (v : Value) (hy : a.eval y = v) (hi : (P.info? ty).map (·.size) = some cur.size) (hs : v.cells.size = cur.size) (h1 : v.cells.toList.all (·.oneCell') = true)
    (h : ∀ w', Wrote g (.cells v.cells t (0, 0)) w w' → wpList P ops Q rest (a.put o.dst undef) w') : wpList P ops Q (o :: rest) a w := by
  refine wpList_plain hgd fun K hK => ?_
  have hst := run_storeCells_at P g 0 t v.cells.toList 0 cur w hg (by simp [hs]) (List.all_eq_true.1 h1)
  have e : (cur.toList.take (0 + 0) ++ v.cells.toList ++ cur.toList.drop (0 + 0 + v.cells.toList.length)).toArray = v.cells := by
    apply Array.ext'
    simp [hs]
  rw [e] at hst
  obtain ⟨i, hi1, hi2⟩ := Option.map_eq_some_iff.1 hi
  unfold Oper.wp
  simp [execOp, ho, hx, hy, Instr.storeAt, Instr.sureAddr, storeVar, sizeOf, typeInfo, hi1, hi2, hs, hst, Result.andThen]
  exact hK _ _ (h _ ⟨rfl, rfl, rfl, by simp [World.setRow], setRow_heap w g cur _ t _ hg, fun k hk => setRow_other w g k _ hk⟩)

theorem results_row_tmp {fn : Func} {p u : Tmp} {ty : TypeId} (h : fn.results = #[.cell p ty, .tmp u]) (tmps : Array Value) (w : World) (g : Nat) (t : TypeId) (cs : Array Value) (fr : Nat × Nat) (d : TypeDesc)
    (hp : tmps.getD p undef = .pointer (some ⟨g, 0, none⟩)) (hg : w.heap[g]? = some (.cells cs t fr))
    (hu : P.underlying ty = some d) (hd : (match d with | .struct _ | .array _ _ => true | _ => false) = true) (hi : (P.info? ty).map (·.size) = some cs.size) :
    (results fn tmps).run P w = .ok (.tuple #[.agg cs, tmps.getD u undef]) w := by
  have hp' : tmps[p]?.getD undef = .pointer (some ⟨g, 0, none⟩) := by simpa using hp
  simp [results, h, hp', asAddr, run_loadVar_row w g t ty cs fr d hg hu hd hi]

/-- a slice of bytes of the call's own, made a string -/
theorem wpList_str_of_bytes (hgd : o.guard = none) (src dst e : TypeId) (x : Operand) (ho : o.op = .convert src dst x)
    (hs : P.underlying src = some (.slice e)) (he : P.underlying e = some (.int .u8)) (hd : P.underlying dst = some .string)
    (v : Value) (hx : a.eval x = v) (base n : Nat) (bs : List UInt8) (hown : w.ownsRow base e 1 v n (bs.map fun b => Value.int .u8 (b.toNat : Int)))
    (h : wpList P ops Q rest (a.put o.dst (.string ⟨bs.toArray⟩)) w) : wpList P ops Q (o :: rest) a w := by
  have hrun : (convert src dst v).run P w = .ok (.string ⟨bs.toArray⟩) w := by
    rcases hown.2 with ⟨rfl, rfl⟩ | ⟨g, cap, cur, rfl, hb, hg, hr⟩
    · have hbs : bs = [] := by
        have := hown.1
        simp at this
        exact this
      subst hbs
      exact run_convert_bytes_nil w src e hs he 0 0 dst hd
    · have hlen : bs.length = n := by simpa using hown.1
      have hrun := run_convert_bytes_arg (P := P) w src e hs he g 0 n cap (bs.map fun b => (b.toNat : Int)) (by simpa using hlen) (by
        intro i hi
        have hi' : i < bs.length := by omega
        have := hown.cells (g := g) rfl i (.int .u8 (bs[i].toNat : Int)) (by simp [hi'])
        have e : (⟨g, 0, none⟩ : Addr).add i = ⟨g, 0 + i, none⟩ := by unfold Addr.add; split <;> simp_all
        rw [e] at this
        rw [this]
        simp [List.getD, hi']) dst hd
      rw [hrun]
      congr 2
      have : (strOfNums (bs.map fun b => (b.toNat : Int))).data.toList = bs := by
        rw [strOfNums_data, List.map_map]
        conv => rhs; rw [← List.map_id bs]
        apply List.map_congr_left
        intro b _
        simp
      rw [← Lib.mk_data (strOfNums _), this]
  refine wpList_plain hgd fun K hK => ?_
  unfold Oper.wp
  simp [execOp, ho, hx, hrun, Result.andThen]
  exact hK _ _ h

theorem results_row_tmp2 {fn : Func} {p u u' : Tmp} {ty : TypeId} (h : fn.results = #[.cell p ty, .tmp u, .tmp u']) (tmps : Array Value) (w : World) (g : Nat) (t : TypeId) (cs : Array Value) (fr : Nat × Nat) (d : TypeDesc)
    (hp : tmps.getD p undef = .pointer (some ⟨g, 0, none⟩)) (hg : w.heap[g]? = some (.cells cs t fr))
    (hu : P.underlying ty = some d) (hd : (match d with | .struct _ | .array _ _ => true | _ => false) = true) (hi : (P.info? ty).map (·.size) = some cs.size) :
    (results fn tmps).run P w = .ok (.tuple #[.agg cs, tmps.getD u undef, tmps.getD u' undef]) w := by
  have hp' : tmps[p]?.getD undef = .pointer (some ⟨g, 0, none⟩) := by simpa using hp
  simp [results, h, hp', asAddr, run_loadVar_row w g t ty cs fr d hg hu hd hi]
end

end Go.Proofs.YtomecnncighkgaaGreatDoor
/- Lists of strings in memory. -/
namespace Go.Proofs.YtomecnncighkgaaGreatDoor
open Go.RowKit

/-- a slice of strings that can be read -/
def StrsAt (w : World) (v : Value) (ss : List ByteArray) : Prop :=
  (∃ ao cap, v = .slice ao 0 cap ∧ ss = []) ∨ ∃ b off cap, v = .slice (some ⟨b, off, none⟩) ss.length cap ∧ b < w.heap.size ∧ ss.length ≤ cap ∧ ∀ i, i < ss.length → w.cell? ⟨b, off + i, none⟩ = some (.string (ss.getD i ByteArray.empty))

theorem StrsAt.below {w w1 : World} {v : Value} {ss : List ByteArray} (h : StrsAt w v ss) (hb : Below w.heap.size w w1) : StrsAt w1 v ss := by
  rcases h with h | ⟨b, off, cap, h1, h2, hc, h3⟩
  · exact .inl h
  · exact .inr ⟨b, off, cap, h1, Nat.lt_of_lt_of_le h2 hb.size, hc, fun i hi => by rw [hb.cell (p := ⟨b, off + i, none⟩) h2]; exact h3 i hi⟩

theorem StrsAt.form {w : World} {v : Value} {ss : List ByteArray} (h : StrsAt w v ss) : ∃ ao cap, v = .slice ao ss.length cap := by
  rcases h with ⟨ao, cap, rfl, rfl⟩ | ⟨b, off, cap, rfl, h2, _, h3⟩
  · exact ⟨_, _, rfl⟩
  · exact ⟨_, _, rfl⟩

/-- the element k of such a slice -/
theorem StrsAt.at_ {w : World} {ao : Option Addr} {n cap : Nat} {ss : List ByteArray} (h : StrsAt w (.slice ao n cap) ss) {k : Nat} (hk : k < ss.length) :
    ∃ b off, ao = some ⟨b, off, none⟩ ∧ b < w.heap.size ∧ w.cell? ⟨b, off + k, none⟩ = some (.string (ss.getD k ByteArray.empty)) := by
  rcases h with ⟨ao, cap, _, rfl⟩ | ⟨b, off, cap, e, h2, _, h3⟩
  · cases hk
  · injection e with e1 e2 e3
    exact ⟨b, off, e1, h2, h3 k hk⟩
end Go.Proofs.YtomecnncighkgaaGreatDoor
/- Values of the configuration language: trees, and how they lie in memory. -/
namespace Go.Proofs.YtomecnncighkgaaGreatDoor
open Go.RowKit

/-- a value: kind, bool, int, string, elements, keys -/
inductive VT where
  | mk (kind : Int) (b : Bool) (n : Int) (s : ByteArray) (list : List VT) (keys : List ByteArray) : VT
def VT.kind : VT → Int | .mk k _ _ _ _ _ => k
def VT.bool : VT → Bool | .mk _ b _ _ _ _ => b
def VT.int : VT → Int | .mk _ _ n _ _ _ => n
def VT.str : VT → ByteArray | .mk _ _ _ s _ _ => s
def VT.list : VT → List VT | .mk _ _ _ _ l _ => l
def VT.keys : VT → List ByteArray | .mk _ _ _ _ _ k => k
def VT.zero : VT := .mk 0 false 0 ⟨#[]⟩ [] []

mutual
/-- six cells that hold a value -/
def VCell (w : World) : VT → List Value → Prop
  | .mk k b n s L ks, cs => ∃ lv kv, cs = [.int .i64 k, .bool b, .int .i64 n, .string s, lv, kv] ∧ StrsAt w kv ks ∧
      ((∃ ao cap, lv = .slice ao 0 cap ∧ L = []) ∨ ∃ bl off cap, lv = .slice (some ⟨bl, off, none⟩) L.length cap ∧ bl < w.heap.size ∧ L.length ≤ cap ∧ VRow w L bl off)
/-- values behind each other, from a place on -/
def VRow (w : World) : List VT → Nat → Nat → Prop
  | [], _, _ => True
  | t :: L, bl, off => (∃ cs, (∀ j u, cs[j]? = some u → w.cell? ⟨bl, off + j, none⟩ = some u) ∧ VCell w t cs) ∧ VRow w L bl (off + 6)
end
/-- a slice of values -/
def VList (w : World) (L : List VT) (v : Value) : Prop :=
  (∃ ao cap, v = .slice ao 0 cap ∧ L = []) ∨ ∃ bl off cap, v = .slice (some ⟨bl, off, none⟩) L.length cap ∧ bl < w.heap.size ∧ L.length ≤ cap ∧ VRow w L bl off
theorem vcell_mk {w : World} {k : Int} {b : Bool} {n : Int} {s : ByteArray} {L : List VT} {ks : List ByteArray} {cs : List Value} :
    VCell w (.mk k b n s L ks) cs ↔ ∃ lv kv, cs = [.int .i64 k, .bool b, .int .i64 n, .string s, lv, kv] ∧ StrsAt w kv ks ∧ VList w L lv := by
  rw [VCell]; rfl
theorem vrow_cons {w : World} {t : VT} {L : List VT} {bl off : Nat} : VRow w (t :: L) bl off ↔ (∃ cs, (∀ j u, cs[j]? = some u → w.cell? ⟨bl, off + j, none⟩ = some u) ∧ VCell w t cs) ∧ VRow w L bl (off + 6) := by
  rw [VRow]
mutual
theorem VCell.below {w w1 : World} (hb : Below w.heap.size w w1) : ∀ (t : VT) (cs : List Value), VCell w t cs → VCell w1 t cs
  | .mk k b n s L ks, cs, h => by
    rw [VCell] at h ⊢
    obtain ⟨lv, kv, h1, h2, h3⟩ := h
    refine ⟨lv, kv, h1, h2.below hb, ?_⟩
    rcases h3 with h3 | ⟨bl, off, cap, e, hlt, hc, hr⟩
    · exact .inl h3
    · exact .inr ⟨bl, off, cap, e, Nat.lt_of_lt_of_le hlt hb.size, hc, VRow.below hb L bl off hlt hr⟩
theorem VRow.below {w w1 : World} (hb : Below w.heap.size w w1) : ∀ (L : List VT) (bl off : Nat), bl < w.heap.size → VRow w L bl off → VRow w1 L bl off
  | [], _, _, _, _ => by rw [VRow]; trivial
  | t :: L, bl, off, hlt, h => by
    rw [VRow] at h ⊢
    obtain ⟨⟨cs, h1, h2⟩, h3⟩ := h
    exact ⟨⟨cs, fun j u hu => (hb.cell (p := ⟨bl, off + j, none⟩) hlt).trans (h1 j u hu), VCell.below hb t cs h2⟩, VRow.below hb L bl (off + 6) hlt h3⟩
end
theorem VList.below {w w1 : World} {L : List VT} {v : Value} (h : VList w L v) (hb : Below w.heap.size w w1) : VList w1 L v := by
  rcases h with h | ⟨bl, off, cap, e, hlt, hc, hr⟩
  · exact .inl h
  · exact .inr ⟨bl, off, cap, e, Nat.lt_of_lt_of_le hlt hb.size, hc, VRow.below hb L bl off hlt hr⟩
theorem VRow.at {w : World} : ∀ {L : List VT} {bl off : Nat}, VRow w L bl off → ∀ {k : Nat} (hk : k < L.length), ∃ cs, (∀ j u, cs[j]? = some u → w.cell? ⟨bl, off + k * 6 + j, none⟩ = some u) ∧ VCell w L[k] cs
  | [], _, _, _, _, hk => by cases hk
  | t :: L, bl, off, h, 0, _ => by
    rw [vrow_cons] at h
    obtain ⟨⟨cs, h1, h2⟩, _⟩ := h
    exact ⟨cs, fun j u hu => by rw [Nat.zero_mul, Nat.add_zero]; exact h1 j u hu, h2⟩
  | t :: L, bl, off, h, k + 1, hk => by
    rw [vrow_cons] at h
    obtain ⟨cs, h1, h2⟩ := VRow.at h.2 (k := k) (by simpa using hk)
    refine ⟨cs, fun j u hu => ?_, h2⟩
    have := h1 j u hu
    rwa [show off + 6 + k * 6 + j = off + (k + 1) * 6 + j by omega] at this
theorem VRow.make {w : World} : ∀ {L : List VT} {bl off : Nat}, (∀ k (hk : k < L.length), ∃ cs, (∀ j u, cs[j]? = some u → w.cell? ⟨bl, off + k * 6 + j, none⟩ = some u) ∧ VCell w L[k] cs) → VRow w L bl off
  | [], _, _, _ => by rw [VRow]; trivial
  | t :: L, bl, off, h => by
    rw [vrow_cons]
    refine ⟨?_, VRow.make fun k hk => ?_⟩
    · obtain ⟨cs, h1, h2⟩ := h 0 (by simp)
      exact ⟨cs, fun j u hu => by have := h1 j u hu; rwa [Nat.zero_mul, Nat.add_zero] at this, h2⟩
    · obtain ⟨cs, h1, h2⟩ := h (k + 1) (by simpa using hk)
      refine ⟨cs, fun j u hu => ?_, h2⟩
      have := h1 j u hu
      rwa [show off + (k + 1) * 6 + j = off + 6 + k * 6 + j by omega] at this
theorem VList.form {w : World} {L : List VT} {v : Value} (h : VList w L v) : ∃ ao cap, v = .slice ao L.length cap ∧ L.length ≤ cap ∨ v = .slice ao L.length cap ∧ L = [] := by
  rcases h with ⟨ao, cap, rfl, rfl⟩ | ⟨bl, off, cap, rfl, _, hc, _⟩
  · exact ⟨ao, cap, .inr ⟨rfl, rfl⟩⟩
  · exact ⟨_, cap, .inl ⟨rfl, hc⟩⟩
/-- the cells of the k-th element -/
theorem VList.at {w : World} {L : List VT} {ao : Option Addr} {n cap : Nat} (h : VList w L (.slice ao n cap)) {k : Nat} (hk : k < L.length) :
    ∃ bl off cs, ao = some ⟨bl, off, none⟩ ∧ bl < w.heap.size ∧ (∀ j u, cs[j]? = some u → w.cell? ⟨bl, off + k * 6 + j, none⟩ = some u) ∧ VCell w L[k] cs := by
  rcases h with ⟨_, _, _, rfl⟩ | ⟨bl, off, c, e, hlt, _, hr⟩
  · cases hk
  · injection e with e1 e2 e3
    obtain ⟨cs, h1, h2⟩ := VRow.at hr hk
    exact ⟨bl, off, cs, e1, hlt, h1, h2⟩
/-- a value as it is handed over -/
def VAt (w : World) (v : Value) (t : VT) : Prop := ∃ cs, v = .agg cs.toArray ∧ VCell w t cs
theorem VAt.below {w w1 : World} {v : Value} {t : VT} (h : VAt w v t) (hb : Below w.heap.size w w1) : VAt w1 v t := by
  obtain ⟨cs, h1, h2⟩ := h
  exact ⟨cs, h1, VCell.below hb t cs h2⟩
theorem VAt.open {w : World} {v : Value} {t : VT} (h : VAt w v t) : ∃ lv kv, v = .agg #[.int .i64 t.kind, .bool t.bool, .int .i64 t.int, .string t.str, lv, kv] ∧ StrsAt w kv t.keys ∧ VList w t.list lv := by
  obtain ⟨cs, rfl, h⟩ := h
  cases t with
  | mk k b n s L ks =>
    rw [vcell_mk] at h
    obtain ⟨lv, kv, rfl, h1, h2⟩ := h
    exact ⟨lv, kv, rfl, h1, h2⟩
/-- the nodes of a value with their levels, each ahead of its elements -/
def VT.nodes (lv : Nat) : VT → List (Nat × VT)
  | .mk k b n s L ks => (lv, .mk k b n s L ks) :: L.flatMap (VT.nodes (lv + 1))
end Go.Proofs.YtomecnncighkgaaGreatDoor
/- The walk over ident.digit (the other walks of chapter 04's text are not of this chapter). -/
namespace Go.Proofs.YtomecnncighkgaaGreatDoor
open Go.RowKit

def digF (c : UInt8) : Bool := decide (48 ≤ c.toNat) && decide (c.toNat ≤ 57)

set_option maxRecDepth 100000 in
theorem digit_any (c : UInt8) (w : World) : Calls Tryz.prog 114 #[.int .u8 (c.toNat : Nat)] w fun e w' => e = .returned (.bool (digF c)) ∧ w' = w := by
  unfold digF
  go_enter Tryz.func114, Tryz.ntmps114
  generalize c.toNat = n
  by_cases h1 : 48 ≤ n
  · have t1 : (48 : Int) ≤ (n : Int) := by omega
    go_wp2_with fail
    go_ret
    exact ⟨ret_bool (by rw [Bool.eq_iff_iff]; simp [h1]; try omega), rfl⟩
  · have t1 : ¬ (48 : Int) ≤ (n : Int) := by omega
    go_wp2_with fail
    go_ret
    exact ⟨ret_bool (by first | (simp; done) | (simp [h1]; done)), rfl⟩
end Go.Proofs.YtomecnncighkgaaGreatDoor
/- Plain laws on orders: orders that give -1, 0 or 1; one after the other; on lists; natural order on byte strings. No program in sight. -/
namespace Go.Proofs.YtomecnncighkgaaGreatDoor
open Go.RowKit

structure PO {α : Type} (C : α → α → Int) : Prop where
  rng : ∀ x y, C x y = -1 ∨ C x y = 0 ∨ C x y = 1
  anti : ∀ x y, C y x = - C x y
  trans : ∀ x y z, C x y ≤ 0 → C y z ≤ 0 → C x z ≤ 0

section
variable {α β : Type} {C D : α → α → Int}
theorem PO.refl (h : PO C) (x : α) : C x x = 0 := by have := h.anti x x; omega
theorem PO.eq_eq (h : PO C) {x y : α} (e : C x y = 0) (z : α) : C x z = C y z := by
  have a1 := h.trans x y z
  have a2 := h.trans y x z
  have a3 := h.trans z y x
  have a4 := h.trans z x y
  have b1 := h.anti x y
  have b2 := h.anti x z
  have b3 := h.anti y z
  have r1 := h.rng x z
  have r2 := h.rng y z
  omega
theorem PO.lt_le (h : PO C) {x y z : α} (h1 : C x y < 0) (h2 : C y z ≤ 0) : C x z < 0 := by
  have a1 := h.trans x y z
  have a2 := h.trans y z x
  have b1 := h.anti x y
  have b2 := h.anti x z
  omega
theorem PO.le_lt (h : PO C) {x y z : α} (h1 : C x y ≤ 0) (h2 : C y z < 0) : C x z < 0 := by
  have a1 := h.trans x y z
  have a2 := h.trans z x y
  have b1 := h.anti y z
  have b2 := h.anti x z
  omega

def thenC (C D : α → α → Int) (x y : α) : Int := if C x y = 0 then D x y else C x y
theorem PO.thenC (h : PO C) (k : PO D) : PO (thenC C D) where
  rng x y := by unfold YtomecnncighkgaaGreatDoor.thenC; split; exact k.rng x y; exact h.rng x y
  anti x y := by
    have := h.anti x y
    unfold YtomecnncighkgaaGreatDoor.thenC
    by_cases e : C x y = 0
    · rw [if_pos e, if_pos (by omega)]; exact k.anti x y
    · rw [if_neg e, if_neg (by omega)]; exact this
  trans x y z h1 h2 := by
    unfold YtomecnncighkgaaGreatDoor.thenC at *
    by_cases e1 : C x y = 0
    · rw [if_pos e1] at h1
      rw [h.eq_eq e1 z]
      by_cases e2 : C y z = 0
      · rw [if_pos e2] at h2 ⊢
        exact k.trans x y z h1 h2
      · rw [if_neg e2] at h2 ⊢; exact h2
    · rw [if_neg e1] at h1
      have h3 : C y z ≤ 0 := by
        by_cases e2 : C y z = 0
        · omega
        · rwa [if_neg e2] at h2
      have := h.lt_le (show C x y < 0 by omega) h3
      rw [if_neg (by omega)]; omega

theorem PO.comp (h : PO C) (f : β → α) : PO (fun x y => C (f x) (f y)) where
  rng _ _ := h.rng _ _
  anti _ _ := h.anti _ _
  trans _ _ _ := h.trans _ _ _

def lexC (C : α → α → Int) : List α → List α → Int
  | [], [] => 0
  | [], _ :: _ => -1
  | _ :: _, [] => 1
  | x :: xs, y :: ys => if C x y = 0 then lexC C xs ys else C x y

theorem lexC_rng (h : PO C) : ∀ xs ys, lexC C xs ys = -1 ∨ lexC C xs ys = 0 ∨ lexC C xs ys = 1
  | [], [] => by simp [lexC]
  | [], _ :: _ => by simp [lexC]
  | _ :: _, [] => by simp [lexC]
  | x :: xs, y :: ys => by
    rw [lexC]
    split
    · exact lexC_rng h xs ys
    · exact h.rng x y
theorem lexC_anti (h : PO C) : ∀ xs ys, lexC C ys xs = - lexC C xs ys
  | [], [] => by simp [lexC]
  | [], _ :: _ => by simp [lexC]
  | _ :: _, [] => by simp [lexC]
  | x :: xs, y :: ys => by
    have := h.anti x y
    rw [lexC, lexC]
    by_cases e : C x y = 0
    · rw [if_pos e, if_pos (by omega)]; exact lexC_anti h xs ys
    · rw [if_neg e, if_neg (by omega)]; exact this
theorem lexC_trans (h : PO C) : ∀ xs ys zs, lexC C xs ys ≤ 0 → lexC C ys zs ≤ 0 → lexC C xs zs ≤ 0
  | [], _, [], _, _ => by simp [lexC]
  | [], _, _ :: _, _, _ => by simp [lexC]
  | _ :: _, [], _, h1, _ => by simp [lexC] at h1
  | _ :: _, _ :: _, [], _, h2 => by simp [lexC] at h2
  | x :: xs, y :: ys, z :: zs, h1, h2 => by
    rw [lexC] at *
    by_cases e1 : C x y = 0
    · rw [if_pos e1] at h1
      rw [h.eq_eq e1 z]
      by_cases e2 : C y z = 0
      · rw [if_pos e2] at h2 ⊢
        exact lexC_trans h xs ys zs h1 h2
      · rw [if_neg e2] at h2 ⊢; exact h2
    · rw [if_neg e1] at h1
      have h3 : C y z ≤ 0 := by
        by_cases e2 : C y z = 0
        · omega
        · rwa [if_neg e2] at h2
      have := h.lt_le (show C x y < 0 by omega) h3
      rw [if_neg (by omega)]; omega
theorem PO.lex (h : PO C) : PO (lexC C) := ⟨lexC_rng h, lexC_anti h, lexC_trans h⟩
theorem lexC_eq (P : α → Prop) (he : ∀ x y, P x → P y → C x y = 0 → x = y) : ∀ xs ys, (∀ x ∈ xs, P x) → (∀ y ∈ ys, P y) → lexC C xs ys = 0 → xs = ys
  | [], [], _, _, _ => rfl
  | [], _ :: _, _, _, h => by simp [lexC] at h
  | _ :: _, [], _, _, h => by simp [lexC] at h
  | x :: xs, y :: ys, hx, hy, h => by
    rw [lexC] at h
    by_cases e : C x y = 0
    · rw [if_pos e] at h
      rw [he x y (hx x (List.mem_cons_self ..)) (hy y (List.mem_cons_self ..)) e, lexC_eq P he xs ys (fun a ha => hx a (List.mem_cons_of_mem _ ha)) (fun a ha => hy a (List.mem_cons_of_mem _ ha)) h]
    · rw [if_neg e] at h; exact absurd h e
end

/-- the order of numbers -/
def cmpN (x y : Nat) : Int := if x < y then -1 else if y < x then 1 else 0
theorem cmpN_po : PO cmpN where
  rng x y := by unfold cmpN; (repeat' split) <;> simp
  anti x y := by unfold cmpN; (repeat' split) <;> omega
  trans x y z := by unfold cmpN; (repeat' split) <;> omega
theorem cmpN_eq {x y : Nat} (h : cmpN x y = 0) : x = y := by unfold cmpN at h; (repeat' split at h) <;> omega

/-- the order of byte strings -/
def cmpB (c d : UInt8) : Int := cmpN c.toNat d.toNat
def cmpS : List UInt8 → List UInt8 → Int := lexC cmpB
theorem cmpS_po : PO cmpS := (cmpN_po.comp UInt8.toNat).lex
theorem cmpS_eq {x y : List UInt8} (h : cmpS x y = 0) : x = y :=
  lexC_eq (fun _ => True) (fun _ _ _ _ e => UInt8.toNat_inj.1 (cmpN_eq e)) x y (fun _ _ => trivial) (fun _ _ => trivial) h
theorem cmpS_lt : ∀ x y : List UInt8, cmpS x y = -1 ↔ x < y
  | [], [] => by simp [cmpS, lexC]
  | [], _ :: _ => by simp [cmpS, lexC]
  | _ :: _, [] => by simp [cmpS, lexC]
  | c :: x, d :: y => by
    have ih := cmpS_lt x y
    rw [List.cons_lt_cons_iff, ← ih]
    unfold cmpS
    rw [lexC]
    have e1 : c < d ↔ c.toNat < d.toNat := UInt8.lt_iff_toNat_lt
    have e2 : c = d ↔ c.toNat = d.toNat := UInt8.toNat_inj.symm
    rw [e1, e2]
    unfold cmpB cmpN
    by_cases h1 : c.toNat < d.toNat
    · simp [h1]
    · by_cases h2 : d.toNat < c.toNat
      · simp [h1, h2]; omega
      · have h3 : c.toNat = d.toNat := by omega
        simp [h3]

/-- a run without its leading zeros -/
def stripF (x : List UInt8) : List UInt8 := x.dropWhile (· == 48)
def numF : List UInt8 → List UInt8 → Int :=
  thenC (fun x y => cmpN (stripF x).length (stripF y).length) (thenC (fun x y => cmpS (stripF x) (stripF y)) (fun x y => cmpN x.length y.length))
theorem numF_po : PO numF := (cmpN_po.comp fun x => (stripF x).length).thenC ((cmpS_po.comp stripF).thenC (cmpN_po.comp List.length))
theorem thenC_zero {α : Type} {C D : α → α → Int} {x y : α} (h : thenC C D x y = 0) : C x y = 0 ∧ D x y = 0 := by
  unfold thenC at h
  by_cases e : C x y = 0
  · rw [if_pos e] at h; exact ⟨e, h⟩
  · rw [if_neg e] at h; exact absurd h e
theorem strip_split : ∀ x : List UInt8, x = List.replicate (x.length - (stripF x).length) 48 ++ stripF x ∧ (stripF x).length ≤ x.length
  | [] => by simp [stripF]
  | c :: r => by
    obtain ⟨h1, h2⟩ := strip_split r
    by_cases hc : c = 48
    · subst hc
      have e : stripF (48 :: r) = stripF r := by unfold stripF; rw [List.dropWhile_cons, if_pos (by decide)]
      rw [e]
      refine ⟨?_, by rw [List.length_cons]; omega⟩
      rw [List.length_cons, show r.length + 1 - (stripF r).length = (r.length - (stripF r).length) + 1 by omega, List.replicate_succ, List.cons_append, ← h1]
    · have e : stripF (c :: r) = c :: r := by unfold stripF; rw [List.dropWhile_cons, if_neg (by simpa using hc)]
      rw [e]
      exact ⟨by simp, Nat.le_refl _⟩
theorem numF_eq {x y : List UInt8} (h : numF x y = 0) : x = y := by
  obtain ⟨_, h2⟩ := thenC_zero h
  obtain ⟨h2, h3⟩ := thenC_zero h2
  have e2 := cmpS_eq h2
  have e3 := cmpN_eq h3
  rw [(strip_split x).1, (strip_split y).1, e2, e3]

/-- the class of a token, and its digits -/
def clsT (x : List UInt8) : Nat := if digF (x.headD 0) then 48 else (x.headD 0).toNat
def digT (x : List UInt8) : List UInt8 := if digF (x.headD 0) then x else []
def tokC : List UInt8 → List UInt8 → Int := thenC (fun x y => cmpN (clsT x) (clsT y)) (fun x y => numF (digT x) (digT y))
theorem tokC_po : PO tokC := (cmpN_po.comp clsT).thenC (numF_po.comp digT)

def tokP (x : List UInt8) : Prop := digF (x.headD 0) = true ∨ ∃ c, x = [c] ∧ digF c = false
theorem digF_48 : ∀ c : UInt8, digF c = false → c.toNat ≠ 48 := by
  intro c h h2
  unfold digF at h
  rw [h2] at h
  exact absurd h (by decide)
theorem tokC_eq (x y : List UInt8) (hx : tokP x) (hy : tokP y) (h : tokC x y = 0) : x = y := by
  obtain ⟨h1, h2⟩ := thenC_zero h
  have e1 := cmpN_eq h1
  have e2 := numF_eq h2
  unfold clsT digT at *
  rcases hx with hx | ⟨c, rfl, hc⟩ <;> rcases hy with hy | ⟨d, rfl, hd⟩
  · rw [if_pos hx, if_pos hy] at e2; exact e2
  · rw [if_pos hx] at e1
    simp [hd] at e1
    exact absurd e1.symm (digF_48 d hd)
  · rw [if_pos hy] at e1
    simp [hc] at e1
    exact absurd e1 (digF_48 c hc)
  · simp [hc, hd] at e1
    rw [UInt8.toNat_inj.1 e1]

/-- the tokens of a string: runs of digits and single bytes -/
def tokTo : Nat → List UInt8 → List (List UInt8)
  | 0, _ => []
  | _ + 1, [] => []
  | f + 1, c :: r => if digF c then ((c :: r).takeWhile digF) :: tokTo f ((c :: r).dropWhile digF) else [c] :: tokTo f r
theorem drop_len (p : UInt8 → Bool) : ∀ l : List UInt8, (l.dropWhile p).length ≤ l.length
  | [] => Nat.le_refl _
  | c :: r => by
    rw [List.dropWhile_cons]
    have := drop_len p r
    split
    · rw [List.length_cons]; omega
    · exact Nat.le_refl _
theorem drop_lt {c : UInt8} {r : List UInt8} (h : digF c = true) : ((c :: r).dropWhile digF).length ≤ r.length := by
  rw [List.dropWhile_cons, if_pos h]; exact drop_len digF r
theorem tokTo_fuel : ∀ (f g : Nat) (l : List UInt8), l.length ≤ f → l.length ≤ g → tokTo f l = tokTo g l
  | 0, 0, _, _, _ => rfl
  | 0, _ + 1, [], _, _ => rfl
  | 0, _ + 1, _ :: _, h, _ => by simp at h
  | _ + 1, 0, [], _, _ => rfl
  | _ + 1, 0, _ :: _, _, h => by simp at h
  | _ + 1, _ + 1, [], _, _ => rfl
  | f + 1, g + 1, c :: r, h1, h2 => by
    rw [List.length_cons] at h1 h2
    rw [tokTo, tokTo]
    by_cases hc : digF c = true
    · have := drop_lt (r := r) hc
      rw [if_pos hc, if_pos hc, tokTo_fuel f g _ (by omega) (by omega)]
    · rw [if_neg hc, if_neg hc, tokTo_fuel f g _ (by omega) (by omega)]
def tok (l : List UInt8) : List (List UInt8) := tokTo l.length l
theorem tok_nil : tok [] = [] := rfl
theorem tok_cons (c : UInt8) (r : List UInt8) : tok (c :: r) = if digF c then ((c :: r).takeWhile digF) :: tok ((c :: r).dropWhile digF) else [c] :: tok r := by
  unfold tok
  rw [List.length_cons, tokTo]
  by_cases hc : digF c = true
  · have := drop_lt (r := r) hc
    rw [if_pos hc, if_pos hc, tokTo_fuel r.length _ _ (by omega) (Nat.le_refl _)]
  · rw [if_neg hc, if_neg hc]
theorem tokTo_join : ∀ (f : Nat) (l : List UInt8), l.length ≤ f → (tokTo f l).flatten = l
  | 0, [], _ => rfl
  | 0, _ :: _, h => by simp at h
  | _ + 1, [], _ => rfl
  | f + 1, c :: r, h => by
    rw [List.length_cons] at h
    rw [tokTo]
    by_cases hc : digF c = true
    · have := drop_lt (r := r) hc
      rw [if_pos hc, List.flatten_cons, tokTo_join f _ (by omega)]
      exact List.takeWhile_append_dropWhile
    · rw [if_neg hc, List.flatten_cons, tokTo_join f _ (by omega)]; rfl
theorem tokTo_p : ∀ (f : Nat) (l : List UInt8), ∀ x ∈ tokTo f l, tokP x
  | 0, _, x, h => by simp [tokTo] at h
  | _ + 1, [], x, h => by simp [tokTo] at h
  | f + 1, c :: r, x, h => by
    rw [tokTo] at h
    by_cases hc : digF c = true
    · rw [if_pos hc] at h
      rcases List.mem_cons.1 h with rfl | h
      · left; rw [List.takeWhile_cons, if_pos hc]; exact hc
      · exact tokTo_p f _ x h
    · rw [if_neg hc] at h
      rcases List.mem_cons.1 h with rfl | h
      · right; exact ⟨c, rfl, by simpa using hc⟩
      · exact tokTo_p f _ x h

/-- natural order -/
def natC (a b : List UInt8) : Int := lexC tokC (tok a) (tok b)
theorem natC_po : PO natC := tokC_po.lex.comp tok
theorem natC_eq {a b : List UInt8} (h : natC a b = 0) : a = b := by
  have e := lexC_eq tokP tokC_eq (tok a) (tok b) (tokTo_p _ _) (tokTo_p _ _) h
  rw [← tokTo_join a.length a (Nat.le_refl _), ← tokTo_join b.length b (Nat.le_refl _)]
  exact congrArg List.flatten e
theorem tok_ne {c : UInt8} {r : List UInt8} : ∃ t ts, tok (c :: r) = t :: ts := by
  rw [tok_cons]; split <;> exact ⟨_, _, rfl⟩
theorem natC_end {a b : List UInt8} (h : a = [] ∨ b = []) : natC a b = cmpN a.length b.length := by
  unfold natC
  cases a with
  | nil =>
    cases b with
    | nil => rfl
    | cons d b => obtain ⟨t, ts, e⟩ := tok_ne (c := d) (r := b); rw [e]; rfl
  | cons c a =>
    cases b with
    | nil => obtain ⟨t, ts, e⟩ := tok_ne (c := c) (r := a); rw [e]; rfl
    | cons d b => rcases h with h | h <;> cases h
theorem natC_dig {c d : UInt8} {a b : List UInt8} (hc : digF c = true) (hd : digF d = true) :
    natC (c :: a) (d :: b) = if numF ((c :: a).takeWhile digF) ((d :: b).takeWhile digF) = 0 then natC ((c :: a).dropWhile digF) ((d :: b).dropWhile digF) else numF ((c :: a).takeWhile digF) ((d :: b).takeWhile digF) := by
  unfold natC
  rw [tok_cons, tok_cons, if_pos hc, if_pos hd, lexC]
  have e : tokC ((c :: a).takeWhile digF) ((d :: b).takeWhile digF) = numF ((c :: a).takeWhile digF) ((d :: b).takeWhile digF) := by
    rw [List.takeWhile_cons, if_pos hc, List.takeWhile_cons, if_pos hd]
    unfold tokC thenC
    simp [clsT, digT, hc, hd, cmpN]
  rw [e]
theorem digF_iff (c : UInt8) : digF c = true ↔ 48 ≤ c.toNat ∧ c.toNat ≤ 57 := by unfold digF; simp
theorem natC_byte {c d : UInt8} {a b : List UInt8} (h : ¬ (digF c = true ∧ digF d = true)) :
    natC (c :: a) (d :: b) = if c = d then natC a b else cmpN c.toNat d.toNat := by
  unfold natC
  have hx : ∀ (e : UInt8) (l : List UInt8), (if digF e = true then (e :: l).takeWhile digF else [e]).headD 0 = e := by
    intro e l
    split
    · rename_i h; rw [List.takeWhile_cons, if_pos h]; rfl
    · rfl
  have key : ∀ x y : List UInt8, x.headD 0 = c → y.headD 0 = d → c ≠ d → tokC x y = cmpN c.toNat d.toNat := by
    intro x y hx hy hne
    have hne2 : c.toNat ≠ d.toNat := fun e => hne (UInt8.toNat_inj.1 e)
    have e0 : cmpN (clsT x) (clsT y) = cmpN c.toNat d.toNat := by
      unfold clsT
      rw [hx, hy]
      by_cases hc : digF c = true
      · have hd : ¬ digF d = true := fun hd => h ⟨hc, hd⟩
        rw [if_pos hc, if_neg hd]
        have r1 := (digF_iff c).1 hc
        have r2 : ¬ (48 ≤ d.toNat ∧ d.toNat ≤ 57) := fun r => hd ((digF_iff d).2 r)
        unfold cmpN
        (repeat' split) <;> omega
      · rw [if_neg hc]
        by_cases hd : digF d = true
        · rw [if_pos hd]
          have r1 := (digF_iff d).1 hd
          have r2 : ¬ (48 ≤ c.toNat ∧ c.toNat ≤ 57) := fun r => hc ((digF_iff c).2 r)
          unfold cmpN
          (repeat' split) <;> omega
        · rw [if_neg hd]
    have e1 : cmpN (clsT x) (clsT y) ≠ 0 := by rw [e0]; exact fun h0 => hne2 (cmpN_eq h0)
    unfold tokC thenC
    show (if cmpN (clsT x) (clsT y) = 0 then _ else cmpN (clsT x) (clsT y)) = _
    rw [if_neg e1, e0]
  by_cases e : c = d
  · subst e
    have hc : ¬ digF c = true := fun hc => h ⟨hc, hc⟩
    rw [if_pos rfl, tok_cons, tok_cons, if_neg hc, if_neg hc, lexC, if_pos (tokC_po.refl _)]
  · rw [if_neg e, tok_cons, tok_cons]
    have e2 : cmpN c.toNat d.toNat ≠ 0 := fun h0 => e (UInt8.toNat_inj.1 (cmpN_eq h0))
    have hk : ∀ x y, x.headD 0 = c → y.headD 0 = d → ∀ xs ys, lexC tokC (x :: xs) (y :: ys) = cmpN c.toNat d.toNat := by
      intro x y hx hy xs ys
      rw [lexC, key x y hx hy e, if_neg e2]
    by_cases hc : digF c = true
    · have hd : ¬ digF d = true := fun hd => h ⟨hc, hd⟩
      rw [if_pos hc, if_neg hd]
      exact hk _ _ (by rw [List.takeWhile_cons, if_pos hc]; rfl) rfl _ _
    · rw [if_neg hc]
      by_cases hd : digF d = true
      · rw [if_pos hd]
        exact hk _ _ rfl (by rw [List.takeWhile_cons, if_pos hd]; rfl) _ _
      · rw [if_neg hd]
        exact hk _ _ rfl rfl _ _
end Go.Proofs.YtomecnncighkgaaGreatDoor
/- The order of values, their validity, in plain words; no program in sight. -/
namespace Go.Proofs.YtomecnncighkgaaGreatDoor

/-! ### the order -/
def cmpI (x y : Int) : Int := if x < y then -1 else if y < x then 1 else 0
theorem cmpI_po : PO cmpI where
  rng x y := by unfold cmpI; (repeat' split) <;> simp
  anti x y := by unfold cmpI; (repeat' split) <;> omega
  trans x y z := by unfold cmpI; (repeat' split) <;> omega
theorem cmpI_eq {x y : Int} (h : cmpI x y = 0) : x = y := by unfold cmpI at h; (repeat' split at h) <;> omega
theorem cmpI_self (x : Int) : cmpI x x = 0 := by unfold cmpI; simp
def keyC : List ByteArray → List ByteArray → Int := fun a b => lexC natC (a.map (·.data.toList)) (b.map (·.data.toList))
theorem keyC_po : PO keyC := (natC_po.lex).comp (List.map fun x : ByteArray => x.data.toList)
/-- what a kind looks at -/
def VT.boolIf (t : VT) : Int := if t.kind = 1 then (if t.bool then 1 else 0) else 0
def VT.intIf (t : VT) : Int := if t.kind = 2 then t.int else 0
def VT.strIf (t : VT) : List UInt8 := if t.kind = 3 then t.str.data.toList else []
def VT.keysIf (t : VT) : List ByteArray := if t.kind = 5 then t.keys else []
def VT.listIf (t : VT) : List VT := if t.kind = 4 ∨ t.kind = 5 then t.list else []
def cmpD : Nat → VT → VT → Int
  | 0 => fun _ _ => 0
  | n + 1 => thenC (fun a b => cmpI a.kind b.kind) (thenC (fun a b => cmpI a.boolIf b.boolIf) (thenC (fun a b => cmpI a.intIf b.intIf) (thenC (fun a b => cmpS a.strIf b.strIf)
      (thenC (fun a b => keyC a.keysIf b.keysIf) (fun a b => lexC (cmpD n) a.listIf b.listIf)))))
theorem cmpD_po : ∀ n, PO (cmpD n)
  | 0 => ⟨fun _ _ => .inr (.inl rfl), fun _ _ => rfl, fun _ _ _ _ _ => Int.le_refl _⟩
  | n + 1 => (cmpI_po.comp VT.kind).thenC ((cmpI_po.comp VT.boolIf).thenC ((cmpI_po.comp VT.intIf).thenC ((cmpS_po.comp VT.strIf).thenC ((keyC_po.comp VT.keysIf).thenC ((cmpD_po n).lex.comp VT.listIf)))))
mutual
def VT.depth : VT → Nat
  | .mk _ _ _ _ L _ => 1 + depthL L
def depthL : List VT → Nat
  | [] => 0
  | t :: L => max t.depth (depthL L)
end
theorem depth_pos (t : VT) : 0 < t.depth := by cases t; rw [VT.depth]; omega
theorem depthL_mem : ∀ {L : List VT} {t : VT}, t ∈ L → t.depth ≤ depthL L
  | _ :: L, t, h => by
    rw [depthL]
    rcases List.mem_cons.1 h with rfl | h
    · exact Nat.le_max_left ..
    · exact Nat.le_trans (depthL_mem h) (Nat.le_max_right ..)
theorem depth_list (t : VT) : depthL t.list < t.depth := by cases t; rw [VT.depth]; show depthL _ < _; simp [VT.list]
theorem lexC_congr {α : Type} {C D : α → α → Int} : ∀ (xs ys : List α), (∀ x ∈ xs, ∀ y, C x y = D x y) → lexC C xs ys = lexC D xs ys
  | [], [], _ => rfl
  | [], _ :: _, _ => rfl
  | _ :: _, [], _ => rfl
  | x :: xs, y :: ys, h => by
    rw [lexC, lexC, h x (List.mem_cons_self ..) y, lexC_congr xs ys fun a ha => h a (List.mem_cons_of_mem _ ha)]
theorem listIf_mem {t x : VT} (h : x ∈ t.listIf) : x.depth < t.depth := by
  unfold VT.listIf at h
  split at h
  · exact Nat.lt_of_le_of_lt (depthL_mem h) (depth_list t)
  · cases h
theorem cmpD_stable : ∀ (n m : Nat) (a b : VT), a.depth ≤ n → a.depth ≤ m → cmpD n a b = cmpD m a b
  | 0, _, a, _, h, _ => by have := depth_pos a; omega
  | _ + 1, 0, a, _, _, h => by have := depth_pos a; omega
  | n + 1, m + 1, a, b, h1, h2 => by
    have e : lexC (cmpD n) a.listIf b.listIf = lexC (cmpD m) a.listIf b.listIf := lexC_congr _ _ fun x hx y => cmpD_stable n m x y (by have := listIf_mem hx; omega) (by have := listIf_mem hx; omega)
    rw [cmpD, cmpD]
    unfold thenC
    simp only [e]
/-- the order of values -/
def cmpV (a b : VT) : Int := cmpD a.depth a b
theorem cmpV_at {n : Nat} {a : VT} (h : a.depth ≤ n) (b : VT) : cmpV a b = cmpD n a b := cmpD_stable _ _ a b (Nat.le_refl _) h
theorem cmpV_po : PO cmpV where
  rng a b := (cmpD_po _).rng a b
  anti a b := by rw [cmpV_at (n := max a.depth b.depth) (Nat.le_max_right ..), cmpV_at (n := max a.depth b.depth) (Nat.le_max_left ..)]; exact (cmpD_po _).anti a b
  trans a b c h1 h2 := by
    have ha : a.depth ≤ max a.depth b.depth := Nat.le_max_left ..
    have hb : b.depth ≤ max a.depth b.depth := Nat.le_max_right ..
    rw [cmpV_at ha] at h1 ⊢
    rw [cmpV_at hb] at h2
    exact (cmpD_po _).trans a b c h1 h2
theorem cmpV_eqn (a b : VT) : cmpV a b = thenC (fun a b => cmpI a.kind b.kind) (thenC (fun a b => cmpI a.boolIf b.boolIf) (thenC (fun a b => cmpI a.intIf b.intIf) (thenC (fun a b => cmpS a.strIf b.strIf)
      (thenC (fun a b => keyC a.keysIf b.keysIf) (fun a b => lexC cmpV a.listIf b.listIf))))) a b := by
  obtain ⟨n, hn⟩ : ∃ n, a.depth = n + 1 := ⟨a.depth - 1, by have := depth_pos a; omega⟩
  have e : lexC (cmpD n) a.listIf b.listIf = lexC cmpV a.listIf b.listIf := lexC_congr _ _ fun x hx y => (cmpV_at (by have := listIf_mem hx; omega) y).symm
  unfold cmpV at *
  rw [hn, cmpD]
  unfold thenC
  simp only [e]
theorem cmpS_self (x : List UInt8) : cmpS x x = 0 := cmpS_po.refl x
/-- kind by kind -/
theorem cmpV_kind {a b : VT} (h : a.kind ≠ b.kind) : cmpV a b = cmpI a.kind b.kind := by
  rw [cmpV_eqn, thenC, if_neg (fun e => h (cmpI_eq e))]
theorem cmpV_bool {a b : VT} (h : a.kind = b.kind) (k : a.kind = 1) : cmpV a b = cmpI (if a.bool then 1 else 0) (if b.bool then 1 else 0) := by
  have k2 : b.kind = 1 := h ▸ k
  rw [cmpV_eqn]
  unfold thenC VT.boolIf VT.intIf VT.strIf VT.keysIf VT.listIf
  simp [k, k2, cmpI_self, cmpS_self, lexC, keyC]
  exact Eq.symm
theorem cmpV_int {a b : VT} (h : a.kind = b.kind) (k : a.kind = 2) : cmpV a b = cmpI a.int b.int := by
  have k2 : b.kind = 2 := h ▸ k
  rw [cmpV_eqn]
  unfold thenC VT.boolIf VT.intIf VT.strIf VT.keysIf VT.listIf
  simp [k, k2, cmpI_self, cmpS_self, lexC, keyC]
  exact Eq.symm
theorem cmpV_str {a b : VT} (h : a.kind = b.kind) (k : a.kind = 3) : cmpV a b = cmpS a.str.data.toList b.str.data.toList := by
  have k2 : b.kind = 3 := h ▸ k
  rw [cmpV_eqn]
  unfold thenC VT.boolIf VT.intIf VT.strIf VT.keysIf VT.listIf
  simp [k, k2, cmpI_self, lexC, keyC]
  exact Eq.symm
theorem cmpV_list {a b : VT} (h : a.kind = b.kind) (k : a.kind = 4) : cmpV a b = lexC cmpV a.list b.list := by
  have k2 : b.kind = 4 := h ▸ k
  rw [cmpV_eqn]
  unfold thenC VT.boolIf VT.intIf VT.strIf VT.keysIf VT.listIf
  simp [k, k2, cmpI_self, lexC, keyC, cmpS]
theorem cmpV_map {a b : VT} (h : a.kind = b.kind) (k : a.kind = 5) : cmpV a b = if keyC a.keys b.keys = 0 then lexC cmpV a.list b.list else keyC a.keys b.keys := by
  have k2 : b.kind = 5 := h ▸ k
  rw [cmpV_eqn]
  unfold thenC VT.boolIf VT.intIf VT.strIf VT.keysIf VT.listIf
  simp [k, k2, cmpI_self, cmpS_self]
theorem cmpV_other {a b : VT} (h : a.kind = b.kind) (k : ¬ (1 ≤ a.kind ∧ a.kind ≤ 5)) : cmpV a b = 0 := by
  have n1 : a.kind ≠ 1 := by omega
  have n2 : a.kind ≠ 2 := by omega
  have n3 : a.kind ≠ 3 := by omega
  have n4 : a.kind ≠ 4 := by omega
  have n5 : a.kind ≠ 5 := by omega
  have m1 : b.kind ≠ 1 := by omega
  have m2 : b.kind ≠ 2 := by omega
  have m3 : b.kind ≠ 3 := by omega
  have m4 : b.kind ≠ 4 := by omega
  have m5 : b.kind ≠ 5 := by omega
  have e0 : cmpI a.kind b.kind = 0 := by rw [h]; exact cmpI_self _
  rw [cmpV_eqn]
  unfold thenC VT.boolIf VT.intIf VT.strIf VT.keysIf VT.listIf
  simp [n1, n2, n3, n4, n5, m1, m2, m3, m4, m5, e0, cmpI_self, cmpS, lexC, keyC]

/-! ### validity -/
/-- the fields that a kind does not use are empty -/
def plainF (t : VT) : Bool := (decide (t.kind = 1) || !t.bool) && (decide (t.kind = 2) || decide (t.int = 0)) && (decide (t.kind = 3) || decide (t.str.data.toList = [])) && (decide (t.kind = 4) || decide (t.kind = 5) || decide (t.list.length = 0)) && (decide (t.kind = 5) || decide (t.keys.length = 0))
def keyOk (k : ByteArray) : Bool := decide (1 ≤ k.size) && decide (k.size ≤ 64)
def keysTo (ks : List ByteArray) (n : Nat) : Bool := (List.range n).all fun i => keyOk (ks.getD i ByteArray.empty) && (decide (i = 0) || decide (natC (ks.getD (i - 1) ByteArray.empty).data.toList (ks.getD i ByteArray.empty).data.toList < 0))
def keyedF (t : VT) : Bool := decide (t.keys.length = t.list.length) && keysTo t.keys t.keys.length
/-- the error's number of a value at a level, without its elements -/
def nodeF (lv : Nat) (t : VT) : Nat :=
  if 16 < lv then 13 else
  if t.kind < 0 ∨ 5 < t.kind ∨ plainF t = false then 1 else
  if t.int < -9007199254740992 ∨ 9007199254740992 < t.int then 2 else
  if 4096 < t.str.size ∨ 1024 < t.list.length ∨ 1024 < t.keys.length then 3 else
  if t.kind = 5 ∧ keyedF t = false then 1 else
  if (t.kind = 4 ∨ t.kind = 5) ∧ t.list.length = 0 ∧ lv = 16 then 13 else 0
/-- the first error that is not 0 -/
def firstE : List Nat → Nat
  | [] => 0
  | e :: l => if e ≠ 0 then e else firstE l
theorem firstE_app : ∀ l m, firstE (l ++ m) = if firstE l ≠ 0 then firstE l else firstE m
  | [], m => rfl
  | e :: l, m => by
    rw [List.cons_append, firstE, firstE, firstE_app l m]
    by_cases h : e = 0
    · simp [h]
    · simp [h]
mutual
def checkF (lv : Nat) : VT → Nat
  | .mk k b n s L ks => if nodeF lv (.mk k b n s L ks) ≠ 0 then nodeF lv (.mk k b n s L ks) else checkL (lv + 1) L
def checkL (lv : Nat) : List VT → Nat
  | [] => 0
  | t :: L => if checkF lv t ≠ 0 then checkF lv t else checkL lv L
end
theorem checkF_eqn (lv : Nat) (t : VT) : checkF lv t = if nodeF lv t ≠ 0 then nodeF lv t else checkL (lv + 1) t.list := by
  cases t; rw [checkF]; rfl
theorem checkL_app (lv : Nat) : ∀ L M, checkL lv (L ++ M) = if checkL lv L ≠ 0 then checkL lv L else checkL lv M
  | [], M => by rw [List.nil_append, checkL]; rfl
  | t :: L, M => by
    rw [List.cons_append, checkL, checkL, checkL_app lv L M]
    by_cases h : checkF lv t = 0
    · simp [h]
    · simp [h]
def validF (t : VT) : Nat := checkF 1 t
mutual
/-- the number of levels -/
def levelsF : VT → Nat
  | .mk k _ _ _ L _ => if k = 4 ∨ k = 5 then max 2 (1 + levelsL L) else 1
def levelsL : List VT → Nat
  | [] => 0
  | t :: L => max (levelsF t) (levelsL L)
end
end Go.Proofs.YtomecnncighkgaaGreatDoor
/- Values in plain words: the first error in the order of the nodes, equality, valid values that compare equal are equal. -/
namespace Go.Proofs.YtomecnncighkgaaGreatDoor

/-! ### the nodes one by one -/
theorem nodes_eqn (lv : Nat) (t : VT) : t.nodes lv = (lv, t) :: t.list.flatMap (VT.nodes (lv + 1)) := by
  cases t; rw [VT.nodes]; rfl
def nodeE (x : Nat × VT) : Nat := nodeF x.1 x.2
mutual
theorem check_nodes (lv : Nat) : ∀ t : VT, firstE ((t.nodes lv).map nodeE) = checkF lv t
  | .mk k b n s L ks => by
    rw [nodes_eqn, List.map_cons, firstE, checkF]
    rw [show (VT.mk k b n s L ks).list = L from rfl, checkL_nodes (lv + 1) L]
    rfl
theorem checkL_nodes (lv : Nat) : ∀ L : List VT, firstE ((L.flatMap (VT.nodes lv)).map nodeE) = checkL lv L
  | [] => rfl
  | t :: L => by
    rw [List.flatMap_cons, List.map_append, firstE_app, check_nodes lv t, checkL_nodes lv L, checkL]
end
/-! ### all nodes of a valid value -/
theorem checkL_mem {lv : Nat} : ∀ {L : List VT}, checkL lv L = 0 → ∀ t ∈ L, checkF lv t = 0
  | t :: L, h, x, hx => by
    rw [checkL] at h
    by_cases h1 : checkF lv t = 0
    · rw [if_neg (fun k => k h1)] at h
      rcases List.mem_cons.1 hx with rfl | hx
      · exact h1
      · exact checkL_mem h x hx
    · rw [if_pos h1] at h; exact absurd h h1
theorem check_zero {lv : Nat} {t : VT} (h : checkF lv t = 0) : nodeF lv t = 0 ∧ ∀ x ∈ t.list, checkF (lv + 1) x = 0 := by
  rw [checkF_eqn] at h
  by_cases h1 : nodeF lv t = 0
  · rw [if_neg (fun k => k h1)] at h
    exact ⟨h1, checkL_mem h⟩
  · rw [if_pos h1] at h; exact absurd h h1
theorem node_zero {lv : Nat} {t : VT} (h : nodeF lv t = 0) : lv ≤ 16 ∧ 0 ≤ t.kind ∧ t.kind ≤ 5 ∧ plainF t = true ∧ -9007199254740992 ≤ t.int ∧ t.int ≤ 9007199254740992 ∧ t.str.size ≤ 4096 ∧ t.list.length ≤ 1024 ∧ t.keys.length ≤ 1024 ∧ (t.kind = 5 → keyedF t = true) := by
  unfold nodeF at h
  by_cases h1 : 16 < lv
  · rw [if_pos h1] at h; cases h
  rw [if_neg h1] at h
  by_cases h2 : t.kind < 0 ∨ 5 < t.kind ∨ plainF t = false
  · rw [if_pos h2] at h; cases h
  rw [if_neg h2] at h
  by_cases h3 : t.int < -9007199254740992 ∨ 9007199254740992 < t.int
  · rw [if_pos h3] at h; cases h
  rw [if_neg h3] at h
  by_cases h4 : 4096 < t.str.size ∨ 1024 < t.list.length ∨ 1024 < t.keys.length
  · rw [if_pos h4] at h; cases h
  rw [if_neg h4] at h
  by_cases h5 : t.kind = 5 ∧ keyedF t = false
  · rw [if_pos h5] at h; cases h
  have hp : plainF t = true := by
    cases hh : plainF t with
    | true => rfl
    | false => exact absurd (.inr (.inr hh)) h2
  refine ⟨by omega, by omega, by omega, hp, by omega, by omega, by omega, by omega, by omega, fun hk => ?_⟩
  cases hh : keyedF t with
  | true => rfl
  | false => exact absurd ⟨hk, hh⟩ h5
theorem plain_parts {t : VT} (h : plainF t = true) : (t.kind ≠ 1 → t.bool = false) ∧ (t.kind ≠ 2 → t.int = 0) ∧ (t.kind ≠ 3 → t.str.data.toList = []) ∧ (t.kind ≠ 4 → t.kind ≠ 5 → t.list = []) ∧ (t.kind ≠ 5 → t.keys = []) := by
  unfold plainF at h
  simp only [Bool.and_eq_true, Bool.or_eq_true, decide_eq_true_eq, Bool.not_eq_true'] at h
  obtain ⟨⟨⟨⟨h1, h2⟩, h3⟩, h4⟩, h5⟩ := h
  refine ⟨fun k => h1.resolve_left k, fun k => h2.resolve_left k, fun k => h3.resolve_left k, fun k k2 => ?_, fun k => ?_⟩
  · rcases h4 with (h4 | h4) | h4
    · exact absurd h4 k
    · exact absurd h4 k2
    · exact List.length_eq_zero_iff.1 h4
  · exact List.length_eq_zero_iff.1 (h5.resolve_left k)
theorem vt_ext {a b : VT} (h1 : a.kind = b.kind) (h2 : a.bool = b.bool) (h3 : a.int = b.int) (h4 : a.str = b.str) (h5 : a.list = b.list) (h6 : a.keys = b.keys) : a = b := by
  cases a; cases b
  simp only [VT.kind, VT.bool, VT.int, VT.str, VT.list, VT.keys] at *
  subst h1 h2 h3 h4 h5 h6
  rfl
theorem bytes_ext {x y : ByteArray} (h : x.data.toList = y.data.toList) : x = y := by cases x; cases y; simp at h; simp [h]
theorem keys_ext : ∀ {a b : List ByteArray}, a.map (fun x : ByteArray => x.data.toList) = b.map (fun x : ByteArray => x.data.toList) → a = b
  | [], [], _ => rfl
  | [], _ :: _, h => by cases h
  | _ :: _, [], h => by cases h
  | x :: a, y :: b, h => by
    rw [List.map_cons, List.map_cons] at h
    injection h with h1 h2
    rw [bytes_ext h1, keys_ext h2]
theorem keyC_eq {a b : List ByteArray} (h : keyC a b = 0) : a = b :=
  keys_ext (lexC_eq (fun _ => True) (fun _ _ _ _ e => natC_eq e) _ _ (fun _ _ => trivial) (fun _ _ => trivial) h)
theorem lexC_zero_len {α : Type} {C : α → α → Int} : ∀ {xs ys : List α}, lexC C xs ys = 0 → xs.length = ys.length ∧ ∀ k (h1 : k < xs.length) (h2 : k < ys.length), C xs[k] ys[k] = 0
  | [], [], _ => ⟨rfl, fun k h => by cases h⟩
  | [], _ :: _, h => by rw [lexC] at h; cases h
  | _ :: _, [], h => by rw [lexC] at h; cases h
  | x :: xs, y :: ys, h => by
    rw [lexC] at h
    by_cases e : C x y = 0
    · rw [if_pos e] at h
      obtain ⟨h1, h2⟩ := lexC_zero_len h
      refine ⟨by rw [List.length_cons, List.length_cons, h1], fun k hk1 hk2 => ?_⟩
      cases k with
      | zero => exact e
      | succ k => exact h2 k (by simpa using hk1) (by simpa using hk2)
    · rw [if_neg e] at h; exact absurd h e
/-- valid values that compare equal are equal -/
theorem cmp_valid : ∀ (n : Nat) (la lb : Nat) (a b : VT), a.depth ≤ n → checkF la a = 0 → checkF lb b = 0 → cmpV a b = 0 → a = b
  | 0, _, _, a, _, hd, _, _, _ => by have := depth_pos a; omega
  | n + 1, la, lb, a, b, hd, ha, hb, h => by
    obtain ⟨na, ca⟩ := check_zero ha
    obtain ⟨nb, cb⟩ := check_zero hb
    obtain ⟨_, ka0, ka5, pa, _, _, _, _, _, _⟩ := node_zero na
    obtain ⟨_, _, _, pb, _, _, _, _, _, _⟩ := node_zero nb
    have hk : a.kind = b.kind := Classical.byContradiction fun hne => by
      rw [cmpV_kind hne] at h; exact hne (cmpI_eq h)
    obtain ⟨pa1, pa2, pa3, pa4, pa5⟩ := plain_parts pa
    obtain ⟨pb1, pb2, pb3, pb4, pb5⟩ := plain_parts pb
    rw [← hk] at pb1 pb2 pb3 pb4 pb5
    have hlist : lexC cmpV a.list b.list = 0 → a.list = b.list := fun hl => by
      obtain ⟨h1, h2⟩ := lexC_zero_len hl
      refine List.ext_getElem h1 fun k k1 k2 => ?_
      refine cmp_valid n (la + 1) (lb + 1) _ _ ?_ (ca _ (List.getElem_mem k1)) (cb _ (List.getElem_mem k2)) (h2 k k1 k2)
      have := depthL_mem (List.getElem_mem k1)
      have := depth_list a
      omega
    have B : a.kind ≠ 1 → a.bool = b.bool := fun k => by rw [pa1 k, pb1 k]
    have I : a.kind ≠ 2 → a.int = b.int := fun k => by rw [pa2 k, pb2 k]
    have S : a.kind ≠ 3 → a.str = b.str := fun k => bytes_ext (by rw [pa3 k, pb3 k])
    have L : a.kind ≠ 4 → a.kind ≠ 5 → a.list = b.list := fun k k2 => by rw [pa4 k k2, pb4 k k2]
    have K : a.kind ≠ 5 → a.keys = b.keys := fun k => by rw [pa5 k, pb5 k]
    by_cases k1 : a.kind = 1
    · rw [cmpV_bool hk k1] at h
      have hb : a.bool = b.bool := by
        have := cmpI_eq h
        cases ha : a.bool <;> cases hb : b.bool <;> rw [ha, hb] at this <;> first | rfl | (revert this; decide)
      exact vt_ext hk hb (I (by omega)) (S (by omega)) (L (by omega) (by omega)) (K (by omega))
    · by_cases k2 : a.kind = 2
      · rw [cmpV_int hk k2] at h
        exact vt_ext hk (B k1) (cmpI_eq h) (S (by omega)) (L (by omega) (by omega)) (K (by omega))
      · by_cases k3 : a.kind = 3
        · rw [cmpV_str hk k3] at h
          exact vt_ext hk (B k1) (I k2) (bytes_ext (cmpS_eq h)) (L (by omega) (by omega)) (K (by omega))
        · by_cases k4 : a.kind = 4
          · rw [cmpV_list hk k4] at h
            exact vt_ext hk (B k1) (I k2) (S k3) (hlist h) (K (by omega))
          · by_cases k5 : a.kind = 5
            · rw [cmpV_map hk k5] at h
              by_cases e : keyC a.keys b.keys = 0
              · rw [if_pos e] at h
                exact vt_ext hk (B k1) (I k2) (S k3) (hlist h) (keyC_eq e)
              · rw [if_neg e] at h; exact absurd h e
            · exact vt_ext hk (B k1) (I k2) (S k3) (L k4 k5) (K k5)
theorem cmp_valid_iff {a b : VT} (ha : validF a = 0) (hb : validF b = 0) : cmpV a b = 0 ↔ a = b :=
  ⟨cmp_valid _ 1 1 a b (Nat.le_refl _) ha hb, fun e => by rw [e]; exact cmpV_po.refl b⟩

/-! ### equality, as the reference looks -/
mutual
def sameV : VT → VT → Bool
  | .mk k b n s L ks, .mk k' b' n' s' L' ks' => decide (k = k') && decide (b = b') && decide (n = n') && decide (s = s') && decide (ks = ks') && sameL L L'
def sameL : List VT → List VT → Bool
  | [], [] => true
  | [], _ :: _ => false
  | _ :: _, [] => false
  | a :: L, b :: M => sameV a b && sameL L M
end
mutual
theorem sameV_iff : ∀ a b : VT, sameV a b = true ↔ a = b
  | .mk k b n s L ks, .mk k' b' n' s' L' ks' => by
    rw [sameV]
    simp only [Bool.and_eq_true, decide_eq_true_eq, VT.mk.injEq, sameL_iff L L']
    constructor
    · rintro ⟨⟨⟨⟨⟨h1, h2⟩, h3⟩, h4⟩, h5⟩, h6⟩; exact ⟨h1, h2, h3, h4, h6, h5⟩
    · rintro ⟨h1, h2, h3, h4, h6, h5⟩; exact ⟨⟨⟨⟨⟨h1, h2⟩, h3⟩, h4⟩, h5⟩, h6⟩
theorem sameL_iff : ∀ L M : List VT, sameL L M = true ↔ L = M
  | [], [] => by simp [sameL]
  | [], _ :: _ => by simp [sameL]
  | _ :: _, [] => by simp [sameL]
  | a :: L, b :: M => by
    rw [sameL, Bool.and_eq_true, sameV_iff a b, sameL_iff L M, List.cons.injEq]
end
end Go.Proofs.YtomecnncighkgaaGreatDoor
/- Plain laws on sorted lists in natural order: what is sorted and cleared of neighbours that are equal is the document's insertion. No program in sight. -/
namespace Go.Proofs.YtomecnncighkgaaGreatDoor
open Go.RowKit

abbrev Bs := List UInt8
/-- strictly ascending -/
def Asc (l : List Bs) : Prop := l.Pairwise (fun x y => natC x y < 0)
theorem lt_irr {x : Bs} (h : natC x x < 0) : False := by have := natC_po.refl x; omega
theorem lt_asy {x y : Bs} (h : natC x y < 0) (k : natC y x < 0) : False := by have := natC_po.anti x y; omega
theorem lt_tr {x y z : Bs} (h : natC x y < 0) (k : natC y z < 0) : natC x z < 0 := natC_po.lt_le h (by omega)

theorem asc_ext : ∀ (l m : List Bs), Asc l → Asc m → (∀ x, x ∈ l ↔ x ∈ m) → l = m
  | [], [], _, _, _ => rfl
  | [], y :: m, _, _, h => by have := (h y).2 (List.mem_cons_self ..); simp at this
  | x :: l, [], _, _, h => by have := (h x).1 (List.mem_cons_self ..); simp at this
  | x :: l, y :: m, hl, hm, h => by
    unfold Asc at hl hm
    rw [List.pairwise_cons] at hl hm
    have e : x = y := by
      rcases List.mem_cons.1 ((h x).1 (List.mem_cons_self ..)) with h1 | h1
      · exact h1
      · rcases List.mem_cons.1 ((h y).2 (List.mem_cons_self ..)) with h2 | h2
        · exact h2.symm
        · exact (lt_asy (hl.1 y h2) (hm.1 x h1)).elim
    subst e
    rw [asc_ext l m hl.2 hm.2 fun z => by
      constructor
      · intro hz
        rcases List.mem_cons.1 ((h z).1 (List.mem_cons_of_mem _ hz)) with rfl | h1
        · exact (lt_irr (hl.1 z hz)).elim
        · exact h1
      · intro hz
        rcases List.mem_cons.1 ((h z).2 (List.mem_cons_of_mem _ hz)) with rfl | h1
        · exact (lt_irr (hm.1 z hz)).elim
        · exact h1]

/-- the place where the document inserts -/
def atT (x : Bs) (out : List Bs) : Nat → Nat
  | 0 => 0
  | k + 1 => if natC x (out.getD k []) < 0 then atT x out k else k + 1
theorem atT_le (x : Bs) (out : List Bs) : ∀ k, atT x out k ≤ k
  | 0 => Nat.le_refl _
  | k + 1 => by
    rw [atT]
    have := atT_le x out k
    split <;> omega
theorem atT_above (x : Bs) (out : List Bs) : ∀ k j, atT x out k ≤ j → j < k → natC x (out.getD j []) < 0
  | 0, j, _, h => by omega
  | k + 1, j, h1, h2 => by
    rw [atT] at h1
    by_cases hc : natC x (out.getD k []) < 0
    · rw [if_pos hc] at h1
      by_cases hj : j = k
      · subst hj; exact hc
      · exact atT_above x out k j h1 (by omega)
    · rw [if_neg hc] at h1; omega
theorem atT_below (x : Bs) (out : List Bs) : ∀ k j, j + 1 = atT x out k → ¬ natC x (out.getD j []) < 0
  | 0, j, h => by rw [atT] at h; omega
  | k + 1, j, h => by
    rw [atT] at h
    by_cases hc : natC x (out.getD k []) < 0
    · rw [if_pos hc] at h; exact atT_below x out k j h
    · rw [if_neg hc] at h
      have : j = k := by omega
      subst this; exact hc
def insR (x : Bs) (out : List Bs) : List Bs :=
  if 0 < atT x out out.length ∧ out.getD (atT x out out.length - 1) [] = x then out else out.take (atT x out out.length) ++ x :: out.drop (atT x out out.length)

theorem getD_mem {l : List Bs} {j : Nat} (h : j < l.length) : l.getD j [] ∈ l := by
  rw [List.getD, List.getElem?_eq_getElem h]; exact List.getElem_mem h
theorem mem_getD {l : List Bs} {x : Bs} (h : x ∈ l) : ∃ j, j < l.length ∧ l.getD j [] = x := by
  obtain ⟨j, hj, rfl⟩ := List.mem_iff_getElem.1 h
  exact ⟨j, hj, by rw [List.getD, List.getElem?_eq_getElem hj]; rfl⟩
theorem asc_getD {l : List Bs} (h : Asc l) {i j : Nat} (hij : i < j) (hj : j < l.length) : natC (l.getD i []) (l.getD j []) < 0 := by
  have := List.pairwise_iff_getElem.1 h i j (by omega) hj hij
  rw [List.getD, List.getD, List.getElem?_eq_getElem hj, List.getElem?_eq_getElem (show i < l.length by omega)]
  exact this

theorem insR_asc (x : Bs) (out : List Bs) (h : Asc out) : Asc (insR x out) ∧ ∀ y, y ∈ insR x out ↔ y = x ∨ y ∈ out := by
  have hle := atT_le x out out.length
  have hab := atT_above x out out.length
  have hbl := atT_below x out out.length
  unfold insR
  generalize atT x out out.length = a at *
  by_cases hc : 0 < a ∧ out.getD (a - 1) [] = x
  · rw [if_pos hc]
    refine ⟨h, fun y => ⟨.inr, ?_⟩⟩
    rintro (rfl | hy)
    · rw [← hc.2]; exact getD_mem (by omega)
    · exact hy
  · rw [if_neg hc]
    have h' : Asc (out.take a ++ out.drop a) := by rw [List.take_append_drop]; exact h
    obtain ⟨p1, p2, p3⟩ := List.pairwise_append.1 h'
    refine ⟨List.pairwise_append.2 ⟨p1, List.pairwise_cons.2 ⟨?_, p2⟩, ?_⟩, ?_⟩
    · intro y hy
      obtain ⟨j, hj, rfl⟩ := List.mem_iff_getElem.1 hy
      rw [List.length_drop] at hj
      have := hab (a + j) (by omega) (by omega)
      rw [List.getD, List.getElem?_eq_getElem (by omega)] at this
      rw [List.getElem_drop]
      exact this
    · have hx : ∀ y ∈ out.take a, natC y x < 0 := by
        intro y hy
        by_cases ha : a = 0
        · subst ha; simp at hy
        · have h1 := hbl (a - 1) (by omega)
          have h2 : natC (out.getD (a - 1) []) x < 0 := by
            have b := natC_po.anti x (out.getD (a - 1) [])
            have e : natC (out.getD (a - 1) []) x ≠ 0 := fun e => hc ⟨by omega, natC_eq e⟩
            omega
          obtain ⟨j, hj, rfl⟩ := List.mem_iff_getElem.1 hy
          rw [List.length_take] at hj
          rw [List.getElem_take]
          by_cases hj2 : j = a - 1
          · subst hj2
            rw [List.getD, List.getElem?_eq_getElem (by omega)] at h2
            exact h2
          · have h3 := asc_getD h (show j < a - 1 by omega) (by omega)
            rw [List.getD, List.getElem?_eq_getElem (by omega)] at h3
            exact lt_tr h3 h2
      intro y hy z hz
      rcases List.mem_cons.1 hz with rfl | hz
      · exact hx y hy
      · exact p3 y hy z hz
    · intro y
      rw [List.mem_append, List.mem_cons]
      constructor
      · rintro (h1 | h1 | h1)
        · exact .inr (List.mem_of_mem_take h1)
        · exact .inl h1
        · exact .inr (List.mem_of_mem_drop h1)
      · rintro (h1 | h1)
        · exact .inr (.inl h1)
        · rw [← List.take_append_drop a out] at h1
          rcases List.mem_append.1 h1 with h1 | h1
          · exact .inl h1
          · exact .inr (.inr h1)

/-- the document's sorting, up to a number of names -/
def sortTo (l : List Bs) : Nat → List Bs
  | 0 => []
  | k + 1 => insR (l.getD k []) (sortTo l k)
def sortF (l : List Bs) : List Bs := sortTo l l.length
theorem sortTo_asc (l : List Bs) : ∀ k, k ≤ l.length → Asc (sortTo l k) ∧ ∀ y, y ∈ sortTo l k ↔ y ∈ l.take k
  | 0, _ => ⟨List.Pairwise.nil, fun y => by simp [sortTo]⟩
  | k + 1, hk => by
    obtain ⟨h1, h2⟩ := sortTo_asc l k (by omega)
    obtain ⟨h3, h4⟩ := insR_asc (l.getD k []) (sortTo l k) h1
    refine ⟨h3, fun y => ?_⟩
    rw [sortTo, h4, h2, List.take_succ_eq_append_getElem (show k < l.length by omega), List.mem_append, List.mem_singleton, List.getD, List.getElem?_eq_getElem (show k < l.length by omega)]
    exact ⟨fun h => h.symm, fun h => h.symm⟩
theorem sortF_asc (l : List Bs) : Asc (sortF l) ∧ ∀ y, y ∈ sortF l ↔ y ∈ l := by
  have := sortTo_asc l l.length (Nat.le_refl _)
  rw [List.take_length] at this
  exact this
theorem insR_len (x : Bs) (out : List Bs) : (insR x out).length ≤ out.length + 1 := by
  unfold insR
  split
  · omega
  · rw [List.length_append, List.length_cons, List.length_take, List.length_drop]; omega
theorem sortTo_len (l : List Bs) : ∀ k, (sortTo l k).length ≤ k
  | 0 => Nat.le_refl _
  | k + 1 => by
    rw [sortTo]
    have := insR_len (l.getD k []) (sortTo l k)
    have := sortTo_len l k
    omega

open Go.Sort in
/-- 'less' by natural order is a strict weak order -/
theorem nat_swo : SWO (ltOf natC) where
  irrefl x := by unfold ltOf; rw [natC_po.refl]; rfl
  trans x y z h1 h2 := by
    unfold ltOf at *
    rw [decide_eq_true_eq] at *
    exact lt_tr h1 h2
  ntrans x y z h1 h2 := by
    unfold ltOf at *
    rw [decide_eq_false_iff_not] at *
    have t := natC_po.trans z y x
    have a1 := natC_po.anti x y
    have a2 := natC_po.anti y z
    have a3 := natC_po.anti x z
    omega

open Go.Lib in
theorem compact_asc (d : Array Bs) (hs : ∀ i j, i < j → j < d.size → natC d[i]! d[j]! ≤ 0) : ∀ m, m ≤ d.size →
    Asc (compactUpTo d m) ∧ (∀ x, x ∈ compactUpTo d m ↔ ∃ j, j < m ∧ d[j]! = x) ∧ (∀ x ∈ compactUpTo d m, 0 < m → natC x d[m - 1]! ≤ 0)
  | 0, _ => ⟨by simp [compactUpTo, Asc], by simp [compactUpTo], fun _ _ h => by omega⟩
  | m + 1, hm => by
    obtain ⟨h1, h2, h3⟩ := compact_asc d hs m (by omega)
    rw [compactUpTo_succ, Nat.add_sub_cancel]
    by_cases hk : keeps d m = true
    · rw [if_pos hk]
      have hlt : ∀ x ∈ compactUpTo d m, natC x d[m]! < 0 := by
        intro x hx
        obtain ⟨j, hj, _⟩ := (h2 x).1 hx
        have hx3 := h3 x hx (by omega)
        have hne : d[m]! ≠ d[m - 1]! := by
          have := of_decide_eq_true hk
          rcases this with h | h
          · omega
          · exact h
        have hle := hs (m - 1) m (by omega) (by omega)
        have hn0 : natC d[m - 1]! d[m]! ≠ 0 := fun e => hne (natC_eq e).symm
        exact natC_po.le_lt hx3 (by omega)
      refine ⟨?_, fun x => ?_, fun x hx _ => ?_⟩
      · unfold Asc
        rw [List.pairwise_append]
        refine ⟨h1, List.pairwise_singleton _ _, fun x hx y hy => ?_⟩
        rw [List.mem_singleton] at hy
        subst hy
        exact hlt x hx
      · rw [List.mem_append, List.mem_singleton, h2]
        constructor
        · rintro (⟨j, hj, e⟩ | e)
          · exact ⟨j, by omega, e⟩
          · exact ⟨m, by omega, e.symm⟩
        · rintro ⟨j, hj, e⟩
          by_cases hjm : j = m
          · subst hjm; exact .inr e.symm
          · exact .inl ⟨j, by omega, e⟩
      · rcases List.mem_append.1 hx with hx | hx
        · have := hlt x hx; omega
        · rw [List.mem_singleton] at hx
          subst hx
          rw [natC_po.refl]; exact Int.le_refl _
    · rw [if_neg hk, List.append_nil]
      have heq : 0 < m ∧ d[m]! = d[m - 1]! := by
        have := of_decide_eq_false (by simpa using hk : keeps d m = false)
        by_cases h0 : m = 0
        · exact absurd (.inl h0) this
        · refine ⟨by omega, ?_⟩
          by_cases he : d[m]! = d[m - 1]!
          · exact he
          · exact absurd (.inr he) this
      refine ⟨h1, fun x => ?_, fun x hx _ => ?_⟩
      · rw [h2]
        constructor
        · rintro ⟨j, hj, e⟩; exact ⟨j, by omega, e⟩
        · rintro ⟨j, hj, e⟩
          by_cases hjm : j = m
          · subst hjm; exact ⟨j - 1, by omega, by rw [← heq.2]; exact e⟩
          · exact ⟨j, by omega, e⟩
      · rw [heq.2]; exact h3 x hx heq.1

open Go.Lib Go.Sort in
/-- what is sorted, then cleared of equal neighbours, is the document's list -/
theorem compact_sorted (l : List Bs) (d : Array Bs) (hp : PermIn 0 l.toArray.size l.toArray d) (hs : SortedIn (ltOf natC) 0 l.toArray.size d) : compactUpTo d d.size = sortF l := by
  obtain ⟨hz, _, hperm⟩ := hp
  have hmem : ∀ x, x ∈ d.toList ↔ x ∈ l := by
    intro x
    rw [← hz] at hperm
    rw [Array.extract_size, hz, Array.extract_size] at hperm
    exact hperm.mem_iff
  have hle : ∀ i j, i < j → j < d.size → natC d[i]! d[j]! ≤ 0 := by
    intro i j hij hj
    have := hs i j (Nat.zero_le _) hij (by rw [← hz]; exact hj)
    unfold ltOf at this
    rw [decide_eq_false_iff_not] at this
    have := natC_po.anti d[i]! d[j]!
    omega
  obtain ⟨h1, h2, _⟩ := compact_asc d hle d.size (Nat.le_refl _)
  obtain ⟨h3, h4⟩ := sortF_asc l
  refine asc_ext _ _ h1 h3 fun x => ?_
  rw [h2, h4, ← hmem, Array.mem_toList_iff, Array.mem_iff_getElem]
  constructor
  · rintro ⟨j, hj, e⟩; exact ⟨j, hj, by rw [← e, getElem!_pos d j hj]⟩
  · rintro ⟨j, hj, e⟩; exact ⟨j, hj, by rw [getElem!_pos d j hj]; exact e⟩

/-- ascending, up to a number of names -/
def ascTo (l : List Bs) (k : Nat) : Bool := (List.range k).all fun i => decide (i = 0) || decide (natC (l.getD (i - 1) []) (l.getD i []) < 0)
def ascF (l : List Bs) : Bool := ascTo l l.length
theorem ascTo_succ (l : List Bs) (k : Nat) : ascTo l (k + 1) = (ascTo l k && (decide (k = 0) || decide (natC (l.getD (k - 1) []) (l.getD k []) < 0))) := by
  unfold ascTo; rw [List.range_succ]; simp
theorem ascTo_no {l : List Bs} {k n : Nat} (h : (decide (k = 0) || decide (natC (l.getD (k - 1) []) (l.getD k []) < 0)) = false) (hk : k < n) : ascTo l n = false := by
  unfold ascTo
  rw [Bool.eq_false_iff]
  intro h2
  have := List.all_eq_true.1 h2 k (List.mem_range.2 hk)
  rw [h] at this
  cases this
theorem asc_ascF {l : List Bs} (h : Asc l) : ascF l = true := by
  unfold ascF ascTo
  rw [List.all_eq_true]
  intro i hi
  rw [List.mem_range] at hi
  by_cases h0 : i = 0
  · simp [h0]
  · have := asc_getD h (show i - 1 < i by omega) hi
    rw [decide_eq_true this, Bool.or_true]
end Go.Proofs.YtomecnncighkgaaGreatDoor
/- Lists ascending by a name, whatever lies with the names: unique, insertion; no program in sight. -/
namespace Go.Proofs.YtomecnncighkgaaGreatDoor

section
variable {α : Type} (nm : α → Bs)
def AscN (l : List α) : Prop := l.Pairwise (fun x y => natC (nm x) (nm y) < 0)
variable {nm}
theorem ascN_ext : ∀ (l m : List α), AscN nm l → AscN nm m → (∀ x, x ∈ l ↔ x ∈ m) → l = m
  | [], [], _, _, _ => rfl
  | [], y :: m, _, _, h => by have := (h y).2 (List.mem_cons_self ..); simp at this
  | x :: l, [], _, _, h => by have := (h x).1 (List.mem_cons_self ..); simp at this
  | x :: l, y :: m, hl, hm, h => by
    unfold AscN at hl hm
    rw [List.pairwise_cons] at hl hm
    have e : x = y := by
      rcases List.mem_cons.1 ((h x).1 (List.mem_cons_self ..)) with h1 | h1
      · exact h1
      · rcases List.mem_cons.1 ((h y).2 (List.mem_cons_self ..)) with h2 | h2
        · exact h2.symm
        · exact (lt_asy (hl.1 y h2) (hm.1 x h1)).elim
    subst e
    rw [ascN_ext l m hl.2 hm.2 fun z => by
      constructor
      · intro hz
        rcases List.mem_cons.1 ((h z).1 (List.mem_cons_of_mem _ hz)) with rfl | h1
        · exact (lt_irr (hl.1 z hz)).elim
        · exact h1
      · intro hz
        rcases List.mem_cons.1 ((h z).2 (List.mem_cons_of_mem _ hz)) with rfl | h1
        · exact (lt_irr (hm.1 z hz)).elim
        · exact h1]
/-- one more, ahead of the first whose name is greater -/
def insN (nm : α → Bs) (x : α) : List α → List α
  | [] => [x]
  | y :: l => if natC (nm x) (nm y) < 0 then x :: y :: l else y :: insN nm x l
theorem insN_perm (x : α) : ∀ l, (insN nm x l).Perm (x :: l)
  | [] => List.Perm.refl _
  | y :: l => by
    rw [insN]
    split
    · exact List.Perm.refl _
    · exact ((insN_perm x l).cons y).trans (List.Perm.swap x y l)
theorem insN_asc {x : α} : ∀ {l : List α}, AscN nm l → nm x ∉ l.map nm → AscN nm (insN nm x l)
  | [], _, _ => by rw [insN]; exact List.pairwise_singleton ..
  | y :: l, h, hx => by
    unfold AscN at h
    rw [List.pairwise_cons] at h
    rw [insN]
    by_cases hc : natC (nm x) (nm y) < 0
    · rw [if_pos hc]
      refine List.pairwise_cons.2 ⟨fun z hz => ?_, List.pairwise_cons.2 h⟩
      rcases List.mem_cons.1 hz with rfl | hz
      · exact hc
      · exact lt_tr hc (h.1 z hz)
    · rw [if_neg hc]
      refine List.pairwise_cons.2 ⟨fun z hz => ?_, insN_asc h.2 fun hm => hx (by rw [List.map_cons]; exact List.mem_cons_of_mem _ hm)⟩
      rcases List.mem_cons.1 ((insN_perm x l).mem_iff.1 hz) with rfl | hz
      · have ha := natC_po.anti (nm z) (nm y)
        have hne : natC (nm z) (nm y) ≠ 0 := fun e => hx (by rw [List.map_cons, natC_eq e]; exact List.mem_cons_self ..)
        omega
      · exact h.1 z hz
def sortN (nm : α → Bs) (l : List α) : List α := l.foldl (fun L x => insN nm x L) []
theorem foldN_perm : ∀ (rs L : List α), (rs.foldl (fun L x => insN nm x L) L).Perm (L ++ rs)
  | [], L => by rw [List.append_nil]; exact List.Perm.refl _
  | q :: rs, L => by
    rw [List.foldl_cons]
    refine (foldN_perm rs (insN nm q L)).trans ?_
    refine ((insN_perm q L).append_right rs).trans ?_
    rw [List.cons_append]
    exact List.perm_middle.symm
theorem sortN_perm (rs : List α) : (sortN nm rs).Perm rs := foldN_perm rs []
theorem foldN_asc : ∀ (rs L : List α), AscN nm L → ((L ++ rs).map nm).Nodup → AscN nm (rs.foldl (fun L x => insN nm x L) L)
  | [], L, h, _ => h
  | q :: rs, L, h, hn => by
    rw [List.foldl_cons]
    have hn2 : ((insN nm q L ++ rs).map nm).Nodup := by
      have hp : (insN nm q L ++ rs).Perm (L ++ q :: rs) := by
        refine ((insN_perm q L).append_right rs).trans ?_
        rw [List.cons_append]
        exact List.perm_middle.symm
      exact (hp.map nm).nodup_iff.2 hn
    refine foldN_asc rs _ (insN_asc h ?_) hn2
    intro hm
    rw [List.map_append, List.nodup_append] at hn
    exact hn.2.2 _ hm _ (by rw [List.map_cons]; exact List.mem_cons_self ..) rfl
theorem sortN_asc {rs : List α} (hn : (rs.map nm).Nodup) : AscN nm (sortN nm rs) := foldN_asc rs [] List.Pairwise.nil (by rw [List.nil_append]; exact hn)
theorem sortN_eq {rs ms : List α} (hn : (rs.map nm).Nodup) (hp : rs.Perm ms) : sortN nm rs = sortN nm ms :=
  ascN_ext _ _ (sortN_asc hn) (sortN_asc ((hp.map nm).nodup_iff.1 hn)) fun _ => (((sortN_perm rs).trans hp).trans (sortN_perm ms).symm).mem_iff
theorem asc_nodup {l : List α} (h : AscN nm l) : (l.map nm).Nodup := by
  refine List.Pairwise.map _ (fun a b hab => ?_) h
  intro e
  rw [e] at hab
  exact lt_irr hab
theorem sortN_self {l : List α} (h : AscN nm l) : sortN nm l = l :=
  ascN_ext _ _ (sortN_asc (asc_nodup h)) h fun _ => (sortN_perm l).mem_iff
/-- what a sort leaves -/
theorem sortedN {rs ms : List α} (hn : (rs.map nm).Nodup) (hp : ms.Perm rs) (hs : ∀ i j, i < j → (hj : j < ms.length) → (hi : i < ms.length) → ¬ natC (nm ms[j]) (nm ms[i]) < 0) : ms = sortN nm rs := by
  refine ascN_ext _ _ ?_ (sortN_asc hn) fun _ => (hp.trans (sortN_perm rs).symm).mem_iff
  refine List.pairwise_iff_getElem.2 fun i j hi hj hij => ?_
  have h1 := hs i j hij hj hi
  have h2 := natC_po.anti (nm ms[i]) (nm ms[j])
  have h3 : natC (nm ms[i]) (nm ms[j]) ≠ 0 := fun e => by
    have hnm : (ms.map nm).Nodup := (hp.map nm).nodup_iff.2 hn
    have := List.pairwise_iff_getElem.1 hnm i j (by simpa using hi) (by simpa using hj) hij
    rw [List.getElem_map, List.getElem_map] at this
    exact this (natC_eq e)
  omega
end
end Go.Proofs.YtomecnncighkgaaGreatDoor
/- Maps of values in plain words: levels, entries, the map of some variables. -/
namespace Go.Proofs.YtomecnncighkgaaGreatDoor

/-! ### levels -/
theorem levelsF_eqn (t : VT) : levelsF t = if t.kind = 4 ∨ t.kind = 5 then max 2 (1 + levelsL t.list) else 1 := by
  cases t; rw [levelsF]; rfl
theorem levels_pos (t : VT) : 1 ≤ levelsF t := by rw [levelsF_eqn]; split <;> omega
theorem levelsL_mem : ∀ {L : List VT} {t : VT}, t ∈ L → levelsF t ≤ levelsL L
  | _ :: L, t, h => by
    rw [levelsL]
    rcases List.mem_cons.1 h with rfl | h
    · exact Nat.le_max_left ..
    · exact Nat.le_trans (levelsL_mem h) (Nat.le_max_right ..)
theorem levelsL_le : ∀ {L : List VT} {n : Nat}, (∀ t ∈ L, levelsF t ≤ n) → levelsL L ≤ n
  | [], _, _ => Nat.zero_le _
  | t :: L, n, h => by
    rw [levelsL]
    exact Nat.max_le.2 ⟨h t (List.mem_cons_self ..), levelsL_le fun x hx => h x (List.mem_cons_of_mem _ hx)⟩
theorem node_depth {lv : Nat} {t : VT} (h : nodeF lv t = 0) : lv ≤ 16 ∧ ((t.kind = 4 ∨ t.kind = 5) → t.list.length = 0 → lv ≤ 15) := by
  have h1 := (node_zero h).1
  refine ⟨h1, fun hk hl => ?_⟩
  by_cases h16 : lv = 16
  · exfalso
    unfold nodeF at h
    rw [if_neg (by omega)] at h
    by_cases h2 : t.kind < 0 ∨ 5 < t.kind ∨ plainF t = false
    · rw [if_pos h2] at h; cases h
    rw [if_neg h2] at h
    by_cases h3 : t.int < -9007199254740992 ∨ 9007199254740992 < t.int
    · rw [if_pos h3] at h; cases h
    rw [if_neg h3] at h
    by_cases h4 : 4096 < t.str.size ∨ 1024 < t.list.length ∨ 1024 < t.keys.length
    · rw [if_pos h4] at h; cases h
    rw [if_neg h4] at h
    by_cases h5 : t.kind = 5 ∧ keyedF t = false
    · rw [if_pos h5] at h; cases h
    rw [if_neg h5, if_pos ⟨hk, hl, h16⟩] at h
    cases h
  · omega
/-- a valid value has no more levels than there are -/
theorem levels_fit : ∀ (n : Nat) (lv : Nat) (t : VT), t.depth ≤ n → checkF lv t = 0 → lv + levelsF t ≤ 17
  | 0, _, t, h, _ => by have := depth_pos t; omega
  | n + 1, lv, t, hd, h => by
    obtain ⟨h1, h2⟩ := check_zero h
    obtain ⟨h3, h4⟩ := node_depth h1
    rw [levelsF_eqn]
    by_cases hk : t.kind = 4 ∨ t.kind = 5
    · rw [if_pos hk]
      have hx : ∀ x ∈ t.list, lv + 1 + levelsF x ≤ 17 := fun x hx => levels_fit n (lv + 1) x (by have := depthL_mem hx; have := depth_list t; omega) (h2 x hx)
      have hl : levelsL t.list ≤ 16 - lv := levelsL_le fun x hm => by have := hx x hm; omega
      have h15 : lv ≤ 15 := by
        by_cases hz : t.list.length = 0
        · exact h4 hk hz
        · obtain ⟨x, hm⟩ := List.exists_mem_of_length_pos (show 0 < t.list.length by omega)
          have := hx x hm
          have := levels_pos x
          omega
      omega
    · rw [if_neg hk]; omega
/-- a node's error hangs on the level by its depth alone -/
theorem node_move {lv lv' : Nat} {t : VT} (h : nodeF lv t = 0) (h1 : lv' ≤ 16) (h2 : (t.kind = 4 ∨ t.kind = 5) → t.list.length = 0 → lv' ≤ 15) : nodeF lv' t = 0 := by
  obtain ⟨_, k0, k5, pl, i1, i2, s, l, k, y⟩ := node_zero h
  unfold nodeF
  rw [if_neg (by omega), if_neg (by rintro (h | h | h); omega; omega; rw [pl] at h; cases h), if_neg (by omega), if_neg (by omega), if_neg (by rintro ⟨hk, hh⟩; rw [y hk] at hh; cases hh), if_neg (by rintro ⟨hk, hl, e⟩; have := h2 hk hl; omega)]
theorem checkL_all {lv : Nat} : ∀ {L : List VT}, (∀ t ∈ L, checkF lv t = 0) → checkL lv L = 0
  | [], _ => rfl
  | t :: L, h => by
    rw [checkL, if_neg (fun k => k (h t (List.mem_cons_self ..)))]
    exact checkL_all fun x hx => h x (List.mem_cons_of_mem _ hx)
theorem check_make {lv : Nat} {t : VT} (h : nodeF lv t = 0) (h2 : ∀ x ∈ t.list, checkF (lv + 1) x = 0) : checkF lv t = 0 := by
  rw [checkF_eqn, if_neg (fun k => k h)]
  exact checkL_all h2
theorem check_move : ∀ (n : Nat) (lv lv' : Nat) (t : VT), t.depth ≤ n → checkF lv t = 0 → lv' + levelsF t ≤ 17 → checkF lv' t = 0
  | 0, _, _, t, h, _, _ => by have := depth_pos t; omega
  | n + 1, lv, lv', t, hd, h, hl => by
    obtain ⟨h1, h2⟩ := check_zero h
    rw [levelsF_eqn] at hl
    refine check_make (node_move h1 ?_ ?_) fun x hx => ?_
    · split at hl <;> omega
    · intro hk _
      rw [if_pos hk] at hl
      omega
    · have hk : t.kind = 4 ∨ t.kind = 5 := by
        obtain ⟨_, _, _, p4, _⟩ := plain_parts (node_zero h1).2.2.2.1
        by_cases k4 : t.kind = 4
        · exact .inl k4
        · by_cases k5 : t.kind = 5
          · exact .inr k5
          · rw [p4 k4 k5] at hx; cases hx
      rw [if_pos hk] at hl
      have := levelsL_mem hx
      exact check_move n (lv + 1) (lv' + 1) x (by have := depthL_mem hx; have := depth_list t; omega) (h2 x hx) (by omega)

/-! ### maps -/
/-- a variable: name, value -/
abbrev VR := ByteArray × VT
abbrev nmR (x : VR) : Bs := x.1.data.toList
/-- the error's number of some variables, others having come before -/
def entTo (acc : List VR) : List VR → Nat
  | [] => 0
  | x :: l => if keyOk x.1 = false then 1 else if validF x.2 ≠ 0 then validF x.2 else if 16 ≤ levelsF x.2 then 13 else if nmR x ∈ acc.map nmR then 7 else entTo (acc ++ [x]) l
def mapE (vars : List VR) : Nat := if 1024 < vars.length then 3 else entTo [] vars
def mapT (vars : List VR) : VT := .mk 5 false 0 ⟨#[]⟩ (vars.map (·.2)) (vars.map (·.1))
def mapF (vars : List VR) : VT := if mapE vars = 0 then mapT (sortN nmR vars) else VT.zero
theorem entTo_iff : ∀ (acc l : List VR), entTo acc l = 0 ↔ (∀ x ∈ l, keyOk x.1 = true ∧ validF x.2 = 0 ∧ levelsF x.2 < 16) ∧ (∀ x ∈ l, nmR x ∉ acc.map nmR) ∧ (l.map nmR).Nodup
  | acc, [] => by simp [entTo]
  | acc, x :: l => by
    rw [entTo]
    by_cases h1 : keyOk x.1 = false
    · rw [if_pos h1]
      exact ⟨fun h => absurd h (by decide), fun h => by have := (h.1 x (List.mem_cons_self ..)).1; rw [h1] at this; cases this⟩
    · rw [if_neg h1]
      by_cases h2 : validF x.2 = 0
      · rw [if_neg (fun k => k h2)]
        by_cases h3 : 16 ≤ levelsF x.2
        · rw [if_pos h3]
          exact ⟨fun h => absurd h (by decide), fun h => by have := (h.1 x (List.mem_cons_self ..)).2.2; omega⟩
        · rw [if_neg h3]
          by_cases h4 : nmR x ∈ acc.map nmR
          · rw [if_pos h4]
            exact ⟨fun h => absurd h (by decide), fun h => absurd h4 (h.2.1 x (List.mem_cons_self ..))⟩
          · rw [if_neg h4, entTo_iff (acc ++ [x]) l, List.map_cons, List.nodup_cons]
            have hk : keyOk x.1 = true := by cases hh : keyOk x.1 with
              | true => rfl
              | false => exact absurd hh h1
            constructor
            · rintro ⟨a1, a2, a3⟩
              refine ⟨fun y hy => ?_, fun y hy => ?_, ?_, a3⟩
              · rcases List.mem_cons.1 hy with rfl | hy
                · exact ⟨hk, h2, by omega⟩
                · exact a1 y hy
              · rcases List.mem_cons.1 hy with rfl | hy
                · exact h4
                · intro hm
                  exact a2 y hy (by rw [List.map_append]; exact List.mem_append_left _ hm)
              · intro hm
                obtain ⟨y, hy, e⟩ := List.mem_map.1 hm
                exact a2 y hy (by rw [List.map_append, e]; exact List.mem_append_right _ (List.mem_singleton.2 rfl))
            · rintro ⟨a1, a2, a3, a4⟩
              refine ⟨fun y hy => a1 y (List.mem_cons_of_mem _ hy), fun y hy hm => ?_, a4⟩
              rw [List.map_append] at hm
              rcases List.mem_append.1 hm with hm | hm
              · exact a2 y (List.mem_cons_of_mem _ hy) hm
              · have e := List.mem_singleton.1 hm
                exact a3 (by rw [← e]; exact List.mem_map.2 ⟨y, hy, rfl⟩)
      · rw [if_pos h2]
        exact ⟨fun h => absurd h h2, fun h => absurd (h.1 x (List.mem_cons_self ..)).2.1 h2⟩
theorem mapE_iff (l : List VR) : mapE l = 0 ↔ l.length ≤ 1024 ∧ (∀ x ∈ l, keyOk x.1 = true ∧ validF x.2 = 0 ∧ levelsF x.2 < 16) ∧ (l.map nmR).Nodup := by
  unfold mapE
  by_cases h : 1024 < l.length
  · rw [if_pos h]
    exact ⟨fun e => absurd e (by decide), fun e => by omega⟩
  · rw [if_neg h, entTo_iff]
    exact ⟨fun e => ⟨by omega, e.1, e.2.2⟩, fun e => ⟨e.2.1, fun _ _ => by simp, e.2.2⟩⟩
theorem mapE_perm {l m : List VR} (hp : l.Perm m) : mapE l = 0 ↔ mapE m = 0 := by
  rw [mapE_iff, mapE_iff, hp.length_eq, (hp.map nmR).nodup_iff]
  exact ⟨fun h => ⟨h.1, fun x hx => h.2.1 x (hp.mem_iff.2 hx), h.2.2⟩, fun h => ⟨h.1, fun x hx => h.2.1 x (hp.mem_iff.1 hx), h.2.2⟩⟩
theorem mapF_perm {l m : List VR} (hp : l.Perm m) : mapF l = mapF m := by
  unfold mapF
  by_cases h : mapE l = 0
  · rw [if_pos h, if_pos ((mapE_perm hp).1 h), sortN_eq ((mapE_iff l).1 h).2.2 hp]
  · rw [if_neg h, if_neg (fun k => h ((mapE_perm hp).2 k))]
theorem keysTo_asc {l : List VR} (h : AscN nmR l) (hk : ∀ x ∈ l, keyOk x.1 = true) : keysTo (l.map (·.1)) l.length = true := by
  unfold keysTo
  rw [List.all_eq_true]
  intro i hi
  have hi := List.mem_range.1 hi
  have e : ∀ j (hj : j < l.length), (l.map (·.1)).getD j ByteArray.empty = l[j].1 := fun j hj => by
    rw [List.getD, List.getElem?_map, List.getElem?_eq_getElem hj]; rfl
  rw [e i hi, hk _ (List.getElem_mem hi), Bool.true_and]
  by_cases h0 : i = 0
  · rw [decide_eq_true h0]; rfl
  · rw [decide_eq_false h0, Bool.false_or, e (i - 1) (by omega)]
    exact decide_eq_true (List.pairwise_iff_getElem.1 h (i - 1) i (by omega) hi (by omega))
/-- a map of variables is valid -/
theorem map_valid {l : List VR} (h : mapE l = 0) : validF (mapF l) = 0 := by
  obtain ⟨h1, h2, h3⟩ := (mapE_iff l).1 h
  unfold mapF
  rw [if_pos h]
  have hp := sortN_perm (nm := nmR) l
  have ha := sortN_asc (nm := nmR) h3
  have hl := hp.length_eq
  have hk : ∀ x ∈ sortN nmR l, keyOk x.1 = true := fun x hx => (h2 x (hp.mem_iff.1 hx)).1
  refine check_make ?_ fun x hx => ?_
  · have hkd : keyedF (mapT (sortN nmR l)) = true := by
      unfold keyedF mapT
      show (decide ((List.map (·.1) (sortN nmR l)).length = (List.map (·.2) (sortN nmR l)).length) && keysTo ((sortN nmR l).map (·.1)) ((sortN nmR l).map (·.1)).length) = true
      rw [List.length_map, List.length_map, keysTo_asc ha hk]
      simp
    have hLen : ¬ (4096 < (mapT (sortN nmR l)).str.size ∨ 1024 < (mapT (sortN nmR l)).list.length ∨ 1024 < (mapT (sortN nmR l)).keys.length) := by
      have e1 : (mapT (sortN nmR l)).str.size = 0 := rfl
      have e2 : (mapT (sortN nmR l)).list.length = (sortN nmR l).length := List.length_map ..
      have e3 : (mapT (sortN nmR l)).keys.length = (sortN nmR l).length := List.length_map ..
      omega
    unfold nodeF
    have hpl : plainF (mapT (sortN nmR l)) = true := by unfold plainF mapT; simp [VT.kind, VT.bool, VT.int, VT.str, VT.list, VT.keys]
    rw [if_neg (by decide), if_neg (by rw [hpl]; unfold mapT; simp [VT.kind]), if_neg (by unfold mapT; simp [VT.int]), if_neg (fun hh => hLen hh), if_neg (by rw [hkd]; simp), if_neg (by rintro ⟨_, _, e⟩; cases e)]
  · obtain ⟨y, hy, rfl⟩ := List.mem_map.1 hx
    obtain ⟨_, v1, v2⟩ := h2 y (hp.mem_iff.1 hy)
    exact check_move _ 1 2 y.2 (Nat.le_refl _) v1 (by omega)
/-- the entries of a map -/
def varsE (t : VT) : Nat := if validF t ≠ 0 then validF t else if t.kind ≠ 5 then 9 else 0
def varsL (t : VT) : List VR := if varsE t = 0 then t.keys.zip t.list else []
theorem zip_fst {α β : Type} : ∀ {a : List α} {b : List β}, a.length = b.length → (a.zip b).map (·.1) = a ∧ (a.zip b).map (·.2) = b
  | [], [], _ => ⟨rfl, rfl⟩
  | x :: a, y :: b, h => by
    obtain ⟨h1, h2⟩ := zip_fst (a := a) (b := b) (by simpa using h)
    rw [List.zip_cons_cons, List.map_cons, List.map_cons, h1, h2]
    exact ⟨rfl, rfl⟩
theorem keyed_asc {l : List VR} (h : keysTo (l.map (·.1)) l.length = true) : AscN nmR l ∧ ∀ x ∈ l, keyOk x.1 = true := by
  unfold keysTo at h
  rw [List.all_eq_true] at h
  have e : ∀ j (hj : j < l.length), (l.map (·.1)).getD j ByteArray.empty = l[j].1 := fun j hj => by
    rw [List.getD, List.getElem?_map, List.getElem?_eq_getElem hj]; rfl
  have hi : ∀ i (hi : i < l.length), keyOk l[i].1 = true ∧ (0 < i → natC (nmR (l[i - 1]'(by omega))) (nmR l[i]) < 0) := fun i hi => by
    have := h i (List.mem_range.2 hi)
    rw [e i hi, Bool.and_eq_true, Bool.or_eq_true] at this
    refine ⟨this.1, fun h0 => ?_⟩
    have h2 := this.2.resolve_left (by simp; omega)
    rw [e (i - 1) (by omega)] at h2
    exact of_decide_eq_true h2
  refine ⟨List.pairwise_iff_getElem.2 ?_, fun x hx => ?_⟩
  · have step : ∀ (d i : Nat) (hi2 : i + d + 1 < l.length), natC (nmR (l[i]'(by omega))) (nmR l[i + d + 1]) < 0 := by
      intro d
      induction d with
      | zero => intro i hi2; exact (hi (i + 1) hi2).2 (by omega)
      | succ d ih => intro i hi2; exact lt_tr (ih i (by omega)) ((hi (i + (d + 1) + 1) hi2).2 (by omega))
    intro i j hi1 hj hij
    obtain ⟨d, rfl⟩ : ∃ d, j = i + d + 1 := ⟨j - i - 1, by omega⟩
    exact step d i hj
  · obtain ⟨i, hi1, rfl⟩ := List.getElem_of_mem hx
    exact (hi i hi1).1
/-- the map of a map's entries is that map -/
theorem map_back {t : VT} (h : varsE t = 0) : mapE (varsL t) = 0 ∧ mapF (varsL t) = t := by
  have hv : validF t = 0 := by
    unfold varsE at h
    by_cases h1 : validF t = 0
    · exact h1
    · rw [if_pos h1] at h; exact absurd h h1
  have hk : t.kind = 5 := by
    unfold varsE at h
    rw [if_neg (fun k => k hv)] at h
    by_cases h1 : t.kind = 5
    · exact h1
    · rw [if_pos h1] at h; cases h
  obtain ⟨hn, hc⟩ := check_zero hv
  obtain ⟨_, _, _, hp, _, _, _, hl, _, hy⟩ := node_zero hn
  have hkd := hy hk
  have hlen : t.keys.length = t.list.length := by
    unfold keyedF at hkd
    rw [Bool.and_eq_true] at hkd
    exact of_decide_eq_true hkd.1
  obtain ⟨z1, z2⟩ := zip_fst hlen
  have hzl : (t.keys.zip t.list).length = t.keys.length := by rw [List.length_zip, hlen]; omega
  have hks : keysTo ((t.keys.zip t.list).map (·.1)) (t.keys.zip t.list).length = true := by
    unfold keyedF at hkd
    rw [Bool.and_eq_true] at hkd
    rw [z1, hzl]
    exact hkd.2
  obtain ⟨ha, hko⟩ := keyed_asc hks
  have hvl : varsL t = t.keys.zip t.list := by unfold varsL; rw [if_pos h]
  have hE : mapE (t.keys.zip t.list) = 0 := (mapE_iff _).2 ⟨by rw [hzl, hlen]; exact hl, fun x hx => by
    have hm := (List.of_mem_zip (show (x.1, x.2) ∈ t.keys.zip t.list from hx)).2
    have hx2 := hc x.2 hm
    have hf := levels_fit _ 2 x.2 (Nat.le_refl _) hx2
    exact ⟨hko x hx, check_move _ 2 1 x.2 (Nat.le_refl _) hx2 (by omega), by omega⟩, asc_nodup ha⟩
  refine ⟨by rw [hvl]; exact hE, ?_⟩
  rw [hvl]
  unfold mapF mapT
  rw [if_pos hE, sortN_self ha, z1, z2]
  obtain ⟨p1, p2, p3, _, _⟩ := plain_parts hp
  refine vt_ext hk.symm (p1 (by omega)).symm (p2 (by omega)).symm (bytes_ext ?_) rfl rfl
  exact (p3 (by omega)).symm
end Go.Proofs.YtomecnncighkgaaGreatDoor
