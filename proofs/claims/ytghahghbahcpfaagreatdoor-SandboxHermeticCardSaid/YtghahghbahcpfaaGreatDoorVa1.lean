/- Small laws on worlds and on operations that load or store a whole block; no program in sight. -/
import Derived.WalkKit
import Derived.WalkSpells
import Derived.WalkLawsBesides
import Derived.RegionTactic
import Derived.ChangeAlike
import Derived.Outline
import Derived.Lib.Hide
import Derived.Laws.CopyOwn
import Derived.Lib.Strings
import Derived.Lib.IndexBytes
import Derived.Deep.LoopGhost
import Derived.Deep.DeepCutAuto
import Derived.Deep.DeepMust
import Derived.Laws.BitsAllLaws
import Derived.Laws.Bits64
import Derived.Test.YtghahghbahcpfaaGreatDoorRows
import Derived.Lib.SlicesCompact
import Derived.Shelf.SlSortCmp.Insertion
namespace Go.Proofs.YtghahghbahcpfaaGreatDoor
open Go.RowKit

/-- block b now holds o; nothing else has turned, no block has come -/
structure Wrote (b : Nat) (o : Obj) (w w' : World) : Prop where
  os : w'.os = w.os
  tape : w'.tape = w.tape
  output : w'.output = w.output
  size : w'.heap.size = w.heap.size
  at_ : w'.heap[b]? = some o
  block : ∀ k, k ≠ b → w'.heap[k]? = w.heap[k]?

theorem Wrote.below {b : Nat} {o : Obj} {w w' : World} (h : Wrote b o w w') {B : Nat} (hB : B ≤ b) : Below B w w' :=
  ⟨h.os, h.tape, h.output, by rw [h.size]; exact Nat.le_refl _, fun k hk => h.block k (by omega)⟩

theorem cell_of_blk {w : World} {b : Nat} {c : Array Value} {t : TypeId} {f : Nat × Nat} (h : w.heap[b]? = some (.cells c t f)) (j : Nat) : w.cell? ⟨b, j, none⟩ = c[j]? := by
  simp [World.cell?, h]
theorem free_of_blk {w : World} {b : Nat} {c : Array Value} {t : TypeId} (h : w.heap[b]? = some (.cells c t (0, 0))) (j : Nat) : w.frozen? ⟨b, j, none⟩ = false := by
  simp [World.frozen?, h]
theorem wrote_setCell {w : World} {b : Nat} {c : Array Value} {t : TypeId} {f : Nat × Nat} (h : w.heap[b]? = some (.cells c t f)) (j : Nat) (v : Value) : Wrote b (.cells (c.setIfInBounds j v) t f) w (w.setCell ⟨b, j, none⟩ v) := by
  refine ⟨rfl, rfl, rfl, by simp [World.setCell], ?_, fun k hk => Below.heap_setCell _ _ _ _ hk⟩
  simp [World.setCell, Array.getElem?_modify, h]
theorem Wrote.drew {b : Nat} {o : Obj} {w w' : World} (h : Wrote b o w w') : Wrote b o w w'.drew := ⟨h.os, h.tape, h.output, h.size, h.at_, h.block⟩
theorem Wrote.trans {b : Nat} {o o' : Obj} {w w1 w2 : World} (h : Wrote b o w w1) (h' : Wrote b o' w1 w2) : Wrote b o' w w2 :=
  ⟨h'.os.trans h.os, h'.tape.trans h.tape, h'.output.trans h.output, h'.size.trans h.size, h'.at_, fun k hk => (h'.block k hk).trans (h.block k hk)⟩

theorem hp_new {w : World} {o : Obj} {k : Nat} (h : k = w.heap.size) : (w.alloc o).heap[k]? = some o := by subst h; exact Go.heap_alloc_new w o
theorem hp_old {w : World} {o : Obj} {k : Nat} (h : k < w.heap.size) : (w.alloc o).heap[k]? = w.heap[k]? := by
  show (w.heap.push o)[k]? = w.heap[k]?
  rw [Array.getElem?_push, if_neg (Nat.ne_of_lt h)]

theorem ret_bool {a b : Bool} (h : a = b) : Ending.returned (.bool a) = .returned (.bool b) := by rw [h]
theorem ret_int {k : IntKind} {a b : Int} (h : a = b) : Ending.returned (.int k a) = .returned (.int k b) := by rw [h]

theorem iv {k : IntKind} {a b : Int} (h : a = b) : Value.int k a = .int k b := by rw [h]
theorem ret2_int {k k' : IntKind} {a b c d : Int} (h : a = b) (h' : c = d) : Ending.returned (.tuple #[.int k a, .int k' c]) = .returned (.tuple #[.int k b, .int k' d]) := by rw [h, h']

theorem str_nil {s : ByteArray} (h : s.data.toList = []) : s.toList.isEmpty = true ∧ s.size = 0 := by
  rw [Lib.toList_data, Lib.size_eq, h]; exact ⟨rfl, rfl⟩
theorem str_cons {s : ByteArray} {c : UInt8} {r : List UInt8} (h : s.data.toList = c :: r) : s.toList.isEmpty = false ∧ s.size = r.length + 1 := by
  rw [Lib.toList_data, Lib.size_eq, h]; exact ⟨rfl, rfl⟩
theorem str_at {s : ByteArray} {l : List UInt8} (h : s.data.toList = l) (i : Nat) (hi : i < s.size) : s[i] = l.getD i 0 := by
  subst h
  have : s.data.toList[i]? = some s[i] := by
    rw [List.getElem?_eq_getElem (by rw [← Lib.size_eq]; exact hi)]; rfl
  rw [List.getD_eq_getElem?_getD, this]; rfl

/-- the cells of a block that has just come -/
theorem cells_new (w : World) (cs : List Value) (t : TypeId) (f : Nat × Nat) : ∀ j u, cs[j]? = some u → (w.alloc (.cells cs.toArray t f)).cell? ((⟨w.heap.size, 0, none⟩ : Addr).add j) = some u := by
  intro j u h
  have e : (⟨w.heap.size, 0, none⟩ : Addr).add j = ⟨w.heap.size, j, none⟩ := by unfold Addr.add; split <;> simp_all
  rw [e, cell_of_blk (hp_new rfl)]
  simpa using h

theorem cells_newAt {w : World} {g : Nat} (hg : g = w.heap.size) (cs : List Value) (t : TypeId) (f : Nat × Nat) : ∀ j u, cs[j]? = some u → (w.alloc (.cells cs.toArray t f)).cell? ((⟨g, 0, none⟩ : Addr).add j) = some u := by
  subst hg; exact cells_new w cs t f

/-- what is owned stays owned where nothing below the heap's size has turned -/
theorem ownsRow_below {w w1 : World} {base : Nat} {e : TypeId} {size : Nat} {v : Value} {n : Nat} {xs : List Value} (h : w.ownsRow base e size v n xs) (hb : Below w.heap.size w w1) : w1.ownsRow base e size v n xs :=
  h.kept (row := none) ⟨hb.os, hb.tape, hb.output, hb.size, fun k hk _ => hb.block k hk⟩ (by cases v.ownBlock <;> simp)

theorem ownsRow_form {w : World} {base : Nat} {e : TypeId} {size : Nat} {v : Value} {n : Nat} {xs : List Value} (h : w.ownsRow base e size v n xs) : ∃ ao cap, v = .slice ao n cap := by
  rcases h.2 with ⟨rfl, rfl⟩ | ⟨g, cap, cur, rfl, _⟩
  · exact ⟨none, 0, rfl⟩
  · exact ⟨_, cap, rfl⟩
theorem ownsRow_base {w : World} {base base' : Nat} {e : TypeId} {size : Nat} {v : Value} {n : Nat} {xs : List Value} (h : w.ownsRow base e size v n xs) (hb : base' ≤ base) : w.ownsRow base' e size v n xs := by
  refine ⟨h.1, ?_⟩
  rcases h.2 with h2 | ⟨g, cap, cur, hv, hg, r⟩
  · exact .inl h2
  · exact .inr ⟨g, cap, cur, hv, Nat.le_trans hb hg, r⟩
theorem ownsRow_wrote {w w1 : World} {base b : Nat} {o : Obj} {e : TypeId} {size : Nat} {v : Value} {n : Nat} {xs : List Value} (h : w.ownsRow base e size v n xs) (hw : Wrote b o w w1) (hb : b < base) : w1.ownsRow base e size v n xs := by
  refine h.kept (row := some b) ⟨hw.os, hw.tape, hw.output, by rw [hw.size]; exact Nat.le_refl _, fun k _ hk => hw.block k (by rintro rfl; exact hk rfl)⟩ ?_
  cases hv : v.ownBlock with
  | none => exact .inl rfl
  | some k => right; have := (h.lt k hv).1; simp; omega

/-- append to what is owned: as the library's law, and the block is the old one or has just come -/
theorem run_append_own2 {P : Program} (w : World) (base : Nat) (t ty e : TypeId) (i : TypeInfo) (z : Value) (size bytes : Nat) (ht : P.underlying t = some (.slice e)) (hi : P.info? e = some i) (hz : i.zero = some z)
    (hsize : i.size = size) (hby : i.bytes = bytes) (hzs : z.cells.size = size) (hsz : 0 < size)
    (v : Value) (n : Nat) (xs : List Value) (hown : w.ownsRow base e size v n xs)
    (a : Addr) (m c : Nat) (news : List Value) (hl : news.length = m * size) (hnews : ∀ j u, news[j]? = some u → w.cell? (a.add j) = some u) (h1 : ∀ u ∈ news, u.oneCell' = true)
    (h63 : n + m ≤ maxLen) (hbytes : (n + m) * bytes ≤ 140737488355328) (hbase : base ≤ w.heap.size) :
    ∃ v' w', (Builtin.append_ #[t, t] ty #[v, .slice (some a) m c]).run P w = .ok v' w' ∧ w'.ownsRow base e size v' (n + m) (xs ++ news) ∧ w.grownBy w' v.ownBlock ∧ (v'.ownBlock = v.ownBlock ∨ v'.ownBlock = some w.heap.size) := by
  obtain ⟨v', w', hr, h2, h3, h4⟩ := run_append_own (P := P) w base t ty e i z size bytes ht hi hz hsize hby hzs hsz v n xs hown a m c news hl hnews h1 h63 hbytes hbase
  refine ⟨v', w', hr, h2, h3, ?_⟩
  subst hsize
  subst hby
  have hsmall : n + m ≤ 9223372036854775807 := by simp only [maxLen] at h63; omega
  rcases hown.2 with ⟨rfl, rfl⟩ | ⟨g, cap, cur, rfl, hbg, hg, hnc, hcm, hcs, htake⟩
  · by_cases hm : m = 0
    · subst hm
      rw [h4.2 ⟨rfl, rfl⟩]
      exact .inl rfl
    · have hr' := run_append_nil (P := P) w t ty e i z ht hi hz a m c news hl hnews (by omega) (by omega) (by have hb := hbytes; simp only [Nat.zero_add] at hb; omega)
      rw [hr'] at hr
      injection hr with e1 e2
      rw [← e1]
      exact .inr rfl
  · by_cases hroom : n + m ≤ cap
    · have hfit : n * i.size + news.length ≤ cur.size := by rw [hl, hcs, ← Nat.add_mul]; exact Nat.mul_le_mul_right _ hroom
      have hr' := run_append_room (P := P) w t ty e i ht hi g n cap cur hg a m c news hl hnews h1 hroom hfit
      rw [hr'] at hr
      injection hr with e1 e2
      rw [← e1]
      exact .inl rfl
    · have holds : ∀ j u, xs[j]? = some u → w.cell? ((⟨g, 0, none⟩ : Addr).add j) = some u := hown.cells (g := g) rfl
      have hr' := run_append_grow (P := P) w t ty e i z ht hi hz ⟨g, 0, none⟩ n cap xs hown.1 holds a m c news hl hnews (by omega) (by omega) (growslice_fits (by omega) hbytes)
      rw [hr'] at hr
      injection hr with e1 e2
      rw [← e1]
      exact .inr rfl

theorem wpList_append2 {P : Program} {ops : Array Oper} {rest : List Oper} {o : Oper} {a : Act} {w : World} {Q : Exit → Act → World → Prop} (hgd : o.guard = none) (s x : Operand) (t : TypeId)
    (ho : o.op = .call { callee := .builtin .append, args := #[s, x], argTypes := #[t, t] })
    (base : Nat) (e : TypeId) (i : TypeInfo) (z : Value) (size bytes : Nat) (ht : P.underlying t = some (.slice e)) (hi : P.info? e = some i ∧ i.zero = some z ∧ i.size = size ∧ i.bytes = bytes)
    (hzs : z.cells.size = size) (hsz : 0 < size)
    (v : Value) (n : Nat) (xs : List Value) (hs : a.eval s = v) (hown : w.ownsRow base e size v n xs)
    (ad : Addr) (m c : Nat) (news : List Value) (hx : a.eval x = .slice (some ad) m c) (hl : news.length = m * size) (hnews : ∀ j u, news[j]? = some u → w.cell? (ad.add j) = some u) (h1 : news.all (·.oneCell') = true)
    (h63 : n + m ≤ maxLen) (hbytes : (n + m) * bytes ≤ 140737488355328) (hbase : base ≤ w.heap.size)
    (h : ∀ v' w', w'.ownsRow base e size v' (n + m) (xs ++ news) → w.grownBy w' v.ownBlock → (v'.ownBlock = v.ownBlock ∨ v'.ownBlock = some w.heap.size) → wpList P ops Q rest (a.put o.dst v') w') : wpList P ops Q (o :: rest) a w := by
  refine wpList_plain hgd fun K hK => ?_
  obtain ⟨hi, hz, hsize, hby⟩ := hi
  obtain ⟨v', w', hr, h2, h3, h4⟩ := run_append_own2 (P := P) w base t o.type e i z size bytes ht hi hz hsize hby hzs hsz v n xs hown ad m c news hl hnews (List.all_eq_true.1 h1) h63 hbytes hbase
  unfold Oper.wp execOp
  simp only [ho, resolve, invoke, builtin, Sem.run_bind, Sem.run_pure, Result.andThen_ok, List.map_toArray, List.map_cons, List.map_nil, hs, hx, hr]
  exact hK _ _ (h v' w' h2 h3 h4)

/-- the cells of the k-th element of what is owned -/
theorem flatMap_at {α : Type} {f : α → List Value} {sz : Nat} (hf : ∀ x, (f x).length = sz) : ∀ (L : List α) (k : Nat) (hk : k < L.length) (j : Nat) (u : Value), (f L[k])[j]? = some u → (L.flatMap f)[k * sz + j]? = some u := by
  intro L
  induction L with
  | nil => intro k hk; cases hk
  | cons x L ih =>
    intro k hk j u hu
    cases k with
    | zero =>
      simp only [List.getElem_cons_zero] at hu
      simp only [Nat.zero_mul, Nat.zero_add, List.flatMap_cons]
      rw [List.getElem?_append_left (by rw [List.getElem?_eq_some_iff] at hu; exact hu.1)]
      exact hu
    | succ k =>
      simp only [List.getElem_cons_succ] at hu
      have hk' : k < L.length := by simpa using hk
      rw [List.flatMap_cons, List.getElem?_append_right (by rw [hf, Nat.succ_mul]; omega), hf]
      rw [show (k + 1) * sz + j - sz = k * sz + j by rw [Nat.succ_mul]; omega]
      exact ih k hk' j u hu

theorem ownsRow_at {w : World} {base : Nat} {e : TypeId} {sz n : Nat} {v : Value} {α : Type} {f : α → List Value} {L : List α} (h : w.ownsRow base e sz v n (L.flatMap f)) (hf : ∀ x, (f x).length = sz) (hsz : 0 < sz) {k : Nat} (hk : k < L.length) :
    ∃ g cap, v = .slice (some ⟨g, 0, none⟩) n cap ∧ base ≤ g ∧ g < w.heap.size ∧ k < n ∧ ∀ j u, (f L[k])[j]? = some u → w.cell? ⟨g, k * sz + j, none⟩ = some u := by
  have hlen : n * sz = L.length * sz := by
    rw [← h.1]
    clear h hk
    induction L with
    | nil => simp
    | cons x L ih => rw [List.flatMap_cons, List.length_append, ih, hf, List.length_cons, Nat.succ_mul]; omega
  have hnl : n = L.length := Nat.eq_of_mul_eq_mul_right hsz hlen
  have hxs := h
  rcases h.2 with ⟨rfl, rfl⟩ | ⟨g, cap, cur, rfl, hb, hg, hr⟩
  · omega
  · refine ⟨g, cap, rfl, hb, (Array.getElem?_eq_some_iff.1 hg).1, by omega, ?_⟩
    intro j u hu
    have := hxs.cells (g := g) rfl (k * sz + j) u (flatMap_at hf L k hk j u hu)
    have e : (⟨g, 0, none⟩ : Addr).add (k * sz + j) = ⟨g, k * sz + j, none⟩ := by unfold Addr.add; split <;> simp_all
    rwa [e] at this

section
variable {P : Program} {ops : Array Oper} {rest : List Oper} {o : Oper} {a : Act} {w : World} {Q : Exit → Act → World → Prop}

/-- a whole struct or array is stored into the block that is its own -/
theorem wpList_store_row (hgd : o.guard = none) (ty : TypeId) (x y : Operand) (ho : o.op = .store ty x y)
    (g : Nat) (hx : a.eval x = .pointer (some ⟨g, 0, none⟩)) (t : TypeId) (cur : Array Value) (hg : w.heap[g]? = some (.cells cur t (0, 0)))
    (v : Value) (hy : a.eval y = v) (hi : (P.info? ty).map (·.size) = some cur.size) (hs : v.cells.size = cur.size) (h1 : v.cells.toList.all (·.oneCell') = true)
    (h : ∀ w', Wrote g (.cells v.cells t (0, 0)) w w' → wpList P ops Q rest (a.put o.dst undef) w') : wpList P ops Q (o :: rest) a w := by
  refine wpList_plain hgd fun K hK => ?_
  have hst := run_storeCells_at P g 0 t v.cells.toList 0 cur w hg (by simp [hs]) (List.all_eq_true.1 h1)
  have e : (cur.toList.take (0 + 0) ++ v.cells.toList ++ cur.toList.drop (0 + 0 + v.cells.toList.length)).toArray = v.cells := by
    apply Array.ext'
    simp [hs]
  rw [e] at hst
  obtain ⟨i, hi1, hi2⟩ := Option.map_eq_some_iff.1 hi
  unfold Oper.wp
  simp [execOp, ho, hx, hy, Instr.storeAt, Instr.sureAddr, storeVar, sizeOf, typeInfo, hi1, hi2, hs, hst, Result.andThen]
  exact hK _ _ (h _ ⟨rfl, rfl, rfl, by simp [World.setRow], setRow_heap w g cur _ t _ hg, fun k hk => setRow_other w g k _ hk⟩)

theorem results_row_tmp {fn : Func} {p u : Tmp} {ty : TypeId} (h : fn.results = #[.cell p ty, .tmp u]) (tmps : Array Value) (w : World) (g : Nat) (t : TypeId) (cs : Array Value) (fr : Nat × Nat) (d : TypeDesc)
    (hp : tmps.getD p undef = .pointer (some ⟨g, 0, none⟩)) (hg : w.heap[g]? = some (.cells cs t fr))
    (hu : P.underlying ty = some d) (hd : (match d with | .struct _ | .array _ _ => true | _ => false) = true) (hi : (P.info? ty).map (·.size) = some cs.size) :
    (results fn tmps).run P w = .ok (.tuple #[.agg cs, tmps.getD u undef]) w := by
  have hp' : tmps[p]?.getD undef = .pointer (some ⟨g, 0, none⟩) := by simpa using hp
  simp [results, h, hp', asAddr, run_loadVar_row w g t ty cs fr d hg hu hd hi]

end

end Go.Proofs.YtghahghbahcpfaaGreatDoor
/- Lists of strings in memory. -/
namespace Go.Proofs.YtghahghbahcpfaaGreatDoor
open Go.RowKit

/-- a slice of strings that can be read -/
def StrsAt (w : World) (v : Value) (ss : List ByteArray) : Prop :=
  (∃ ao cap, v = .slice ao 0 cap ∧ ss = []) ∨ ∃ b off cap, v = .slice (some ⟨b, off, none⟩) ss.length cap ∧ b < w.heap.size ∧ ss.length ≤ cap ∧ ∀ i, i < ss.length → w.cell? ⟨b, off + i, none⟩ = some (.string (ss.getD i ByteArray.empty))

theorem StrsAt.below {w w1 : World} {v : Value} {ss : List ByteArray} (h : StrsAt w v ss) (hb : Below w.heap.size w w1) : StrsAt w1 v ss := by
  rcases h with h | ⟨b, off, cap, h1, h2, hc, h3⟩
  · exact .inl h
  · exact .inr ⟨b, off, cap, h1, Nat.lt_of_lt_of_le h2 hb.size, hc, fun i hi => by rw [hb.cell (p := ⟨b, off + i, none⟩) h2]; exact h3 i hi⟩

theorem StrsAt.form {w : World} {v : Value} {ss : List ByteArray} (h : StrsAt w v ss) : ∃ ao cap, v = .slice ao ss.length cap := by
  rcases h with ⟨ao, cap, rfl, rfl⟩ | ⟨b, off, cap, rfl, h2, _, h3⟩
  · exact ⟨_, _, rfl⟩
  · exact ⟨_, _, rfl⟩

/-- the element k of such a slice -/
theorem StrsAt.at_ {w : World} {ao : Option Addr} {n cap : Nat} {ss : List ByteArray} (h : StrsAt w (.slice ao n cap) ss) {k : Nat} (hk : k < ss.length) :
    ∃ b off, ao = some ⟨b, off, none⟩ ∧ b < w.heap.size ∧ w.cell? ⟨b, off + k, none⟩ = some (.string (ss.getD k ByteArray.empty)) := by
  rcases h with ⟨ao, cap, _, rfl⟩ | ⟨b, off, cap, e, h2, _, h3⟩
  · cases hk
  · injection e with e1 e2 e3
    exact ⟨b, off, e1, h2, h3 k hk⟩
end Go.Proofs.YtghahghbahcpfaaGreatDoor
/- Digests as plain functions on numbers; no program in sight. -/
namespace Go.Proofs.YtghahghbahcpfaaGreatDoor

def rndN (r k i : Nat) : Nat := (((r ^^^ k) * 2654435761 + i) % 4294967296) ^^^ ((((r ^^^ k) * 2654435761 + i) % 4294967296) / 65536)
def mixK (key i : Nat) : Nat := if i % 2 = 1 then key % 4294967296 else key / 4294967296
def mixS (key i : Nat) (p : Nat × Nat) : Nat × Nat := (p.2, p.1 ^^^ rndN p.2 (mixK key i) i)
def mixTo (key x : Nat) : Nat → Nat × Nat
  | 0 => (x / 4294967296, x % 4294967296)
  | i + 1 => mixS key (i + 1) (mixTo key x i)
def mixN (key x : Nat) : Nat := (mixTo key x 4).1 * 4294967296 + (mixTo key x 4).2
/-- the number of some bytes, the first one the smallest -/
def leN : List UInt8 → Nat
  | [] => 0
  | c :: l => c.toNat + 256 * leN l
def sumF : Nat → Nat → List UInt8 → Nat
  | 0, x, _ => x
  | f + 1, x, l => if l = [] then x else sumF f (mixN (leN (l.take 8)) x ^^^ leN (l.take 8)) (l.drop 8)
def sumN (l : List UInt8) : Nat := sumF l.length (mixN l.length 0) l
/-- the eight bytes of a digest -/
def leB (d : Nat) : List UInt8 := (List.range 8).map fun i => UInt8.ofNat (d / 256 ^ i)
def ofN (label : List UInt8) (ds : List Nat) : Nat := sumN (label ++ 0 :: ds.flatMap leB)

theorem xor_lt32 {a b : Nat} (ha : a < 4294967296) (hb : b < 4294967296) : a ^^^ b < 4294967296 := Nat.xor_lt_two_pow (n := 32) ha hb
theorem xor_lt64 {a b : Nat} (ha : a < 18446744073709551616) (hb : b < 18446744073709551616) : a ^^^ b < 18446744073709551616 := Nat.xor_lt_two_pow (n := 64) ha hb
theorem rndN_lt (r k i : Nat) : rndN r k i < 4294967296 := by
  unfold rndN
  exact xor_lt32 (Nat.mod_lt _ (by decide)) (by omega)
theorem mixTo_lt {key x : Nat} (hx : x < 18446744073709551616) : ∀ i, (mixTo key x i).1 < 4294967296 ∧ (mixTo key x i).2 < 4294967296
  | 0 => ⟨by rw [mixTo]; show x / 4294967296 < 4294967296; omega, Nat.mod_lt _ (by decide)⟩
  | i + 1 => by
    have ih := mixTo_lt (key := key) hx i
    rw [mixTo]
    exact ⟨ih.2, xor_lt32 ih.1 (rndN_lt _ _ _)⟩
theorem mixN_lt {key x : Nat} (hx : x < 18446744073709551616) : mixN key x < 18446744073709551616 := by
  have := mixTo_lt (key := key) hx 4
  unfold mixN
  omega
theorem mixK_lt {key i : Nat} (hk : key < 18446744073709551616) : mixK key i < 4294967296 := by
  unfold mixK
  split
  · exact Nat.mod_lt _ (by decide)
  · omega
theorem leN_lt : ∀ l : List UInt8, leN l < 256 ^ l.length
  | [] => by decide
  | c :: l => by
    have h := leN_lt l
    have hc := c.toNat_lt
    rw [leN, List.length_cons, Nat.pow_succ]
    omega
theorem leN_lt8 {l : List UInt8} (h : l.length ≤ 8) : leN l < 18446744073709551616 :=
  Nat.lt_of_lt_of_le (leN_lt l) (Nat.le_trans (Nat.pow_le_pow_right (by decide) h) (by decide))
theorem leN_snoc : ∀ (l : List UInt8) (c : UInt8), leN (l ++ [c]) = leN l + c.toNat * 256 ^ l.length
  | [], c => by simp [leN]
  | a :: l, c => by
    rw [List.cons_append, leN, leN_snoc l, leN, List.length_cons, Nat.pow_succ, Nat.mul_add, ← Nat.mul_assoc, Nat.mul_comm 256 c.toNat, Nat.mul_assoc, Nat.mul_comm 256 (256 ^ l.length)]
    omega
theorem sumF_lt : ∀ (f x : Nat) (l : List UInt8), x < 18446744073709551616 → sumF f x l < 18446744073709551616
  | 0, x, _, h => h
  | f + 1, x, l, h => by
    rw [sumF]
    split
    · exact h
    · exact sumF_lt f _ _ (xor_lt64 (mixN_lt h) (leN_lt8 (by rw [List.length_take]; omega)))
theorem sumN_lt (l : List UInt8) : sumN l < 18446744073709551616 := sumF_lt _ _ _ (mixN_lt (by decide))
theorem ofN_lt (s : List UInt8) (ds : List Nat) : ofN s ds < 18446744073709551616 := sumN_lt _
/-- one group more -/
theorem sumF_step {f x : Nat} {l : List UInt8} (h : l ≠ []) : sumF (f + 1) x l = sumF f (mixN (leN (l.take 8)) x ^^^ leN (l.take 8)) (l.drop 8) := by rw [sumF, if_neg h]
theorem sumF_nil (f x : Nat) : sumF f x [] = x := by cases f <;> simp [sumF]
theorem sumF_fuel : ∀ (f g x : Nat) (l : List UInt8), l.length ≤ f → l.length ≤ g → sumF f x l = sumF g x l
  | 0, g, x, l, h, _ => by
    have : l = [] := List.length_eq_zero_iff.1 (by omega)
    subst this
    rw [sumF_nil, sumF_nil]
  | f + 1, 0, x, l, _, h => by
    have : l = [] := List.length_eq_zero_iff.1 (by omega)
    subst this
    rw [sumF_nil, sumF_nil]
  | f + 1, g + 1, x, l, h1, h2 => by
    by_cases he : l = []
    · subst he; rw [sumF_nil, sumF_nil]
    · rw [sumF_step he, sumF_step he]
      have := List.length_pos_iff.2 he
      exact sumF_fuel f g _ _ (by rw [List.length_drop]; omega) (by rw [List.length_drop]; omega)
/-- the rest of a sum, from byte k on -/
def sumR (l : List UInt8) (k x : Nat) : Nat := sumF l.length x (l.drop k)
theorem sumR_step {l : List UInt8} {k x : Nat} (h : k < l.length) : sumR l k x = sumR l (k + 8) (mixN (leN ((l.drop k).take 8)) x ^^^ leN ((l.drop k).take 8)) := by
  have hne : l.drop k ≠ [] := fun e => by have := congrArg List.length e; rw [List.length_drop] at this; simp at this; omega
  unfold sumR
  obtain ⟨n, hn⟩ : ∃ n, l.length = n + 1 := ⟨l.length - 1, by omega⟩
  rw [hn, sumF_step hne, List.drop_drop]
  exact sumF_fuel _ _ _ _ (by rw [List.length_drop]; omega) (by rw [List.length_drop]; omega)
theorem sumR_end {l : List UInt8} {k x : Nat} (h : l.length ≤ k) : sumR l k x = x := by unfold sumR; rw [List.drop_eq_nil_iff.2 h, sumF_nil]
theorem sumR_zero (l : List UInt8) : sumR l 0 (mixN l.length 0) = sumN l := rfl
theorem leB_len (d : Nat) : (leB d).length = 8 := by unfold leB; simp
end Go.Proofs.YtghahghbahcpfaaGreatDoor
/- The walk over ident.digit (the other walks of chapter 04's text are not of this chapter). -/
namespace Go.Proofs.YtghahghbahcpfaaGreatDoor
open Go.RowKit

def digF (c : UInt8) : Bool := decide (48 ≤ c.toNat) && decide (c.toNat ≤ 57)

set_option maxRecDepth 100000 in
theorem digit_any (c : UInt8) (w : World) : Calls Tryz.prog 165 #[.int .u8 (c.toNat : Nat)] w fun e w' => e = .returned (.bool (digF c)) ∧ w' = w := by
  unfold digF
  go_enter Tryz.func165, Tryz.ntmps165
  generalize c.toNat = n
  by_cases h1 : 48 ≤ n
  · have t1 : (48 : Int) ≤ (n : Int) := by omega
    go_wp2_with fail
    go_ret
    exact ⟨ret_bool (by rw [Bool.eq_iff_iff]; simp [h1]; try omega), rfl⟩
  · have t1 : ¬ (48 : Int) ≤ (n : Int) := by omega
    go_wp2_with fail
    go_ret
    exact ⟨ret_bool (by first | (simp; done) | (simp [h1]; done)), rfl⟩
end Go.Proofs.YtghahghbahcpfaaGreatDoor
/- Plain laws on orders: orders that give -1, 0 or 1; one after the other; on lists; natural order on byte strings. No program in sight. -/
namespace Go.Proofs.YtghahghbahcpfaaGreatDoor
open Go.RowKit

structure PO {α : Type} (C : α → α → Int) : Prop where
  rng : ∀ x y, C x y = -1 ∨ C x y = 0 ∨ C x y = 1
  anti : ∀ x y, C y x = - C x y
  trans : ∀ x y z, C x y ≤ 0 → C y z ≤ 0 → C x z ≤ 0

section
variable {α β : Type} {C D : α → α → Int}
theorem PO.refl (h : PO C) (x : α) : C x x = 0 := by have := h.anti x x; omega
theorem PO.eq_eq (h : PO C) {x y : α} (e : C x y = 0) (z : α) : C x z = C y z := by
  have a1 := h.trans x y z
  have a2 := h.trans y x z
  have a3 := h.trans z y x
  have a4 := h.trans z x y
  have b1 := h.anti x y
  have b2 := h.anti x z
  have b3 := h.anti y z
  have r1 := h.rng x z
  have r2 := h.rng y z
  omega
theorem PO.lt_le (h : PO C) {x y z : α} (h1 : C x y < 0) (h2 : C y z ≤ 0) : C x z < 0 := by
  have a1 := h.trans x y z
  have a2 := h.trans y z x
  have b1 := h.anti x y
  have b2 := h.anti x z
  omega
def thenC (C D : α → α → Int) (x y : α) : Int := if C x y = 0 then D x y else C x y
theorem PO.thenC (h : PO C) (k : PO D) : PO (thenC C D) where
  rng x y := by unfold YtghahghbahcpfaaGreatDoor.thenC; split; exact k.rng x y; exact h.rng x y
  anti x y := by
    have := h.anti x y
    unfold YtghahghbahcpfaaGreatDoor.thenC
    by_cases e : C x y = 0
    · rw [if_pos e, if_pos (by omega)]; exact k.anti x y
    · rw [if_neg e, if_neg (by omega)]; exact this
  trans x y z h1 h2 := by
    unfold YtghahghbahcpfaaGreatDoor.thenC at *
    by_cases e1 : C x y = 0
    · rw [if_pos e1] at h1
      rw [h.eq_eq e1 z]
      by_cases e2 : C y z = 0
      · rw [if_pos e2] at h2 ⊢
        exact k.trans x y z h1 h2
      · rw [if_neg e2] at h2 ⊢; exact h2
    · rw [if_neg e1] at h1
      have h3 : C y z ≤ 0 := by
        by_cases e2 : C y z = 0
        · omega
        · rwa [if_neg e2] at h2
      have := h.lt_le (show C x y < 0 by omega) h3
      rw [if_neg (by omega)]; omega

theorem PO.comp (h : PO C) (f : β → α) : PO (fun x y => C (f x) (f y)) where
  rng _ _ := h.rng _ _
  anti _ _ := h.anti _ _
  trans _ _ _ := h.trans _ _ _

def lexC (C : α → α → Int) : List α → List α → Int
  | [], [] => 0
  | [], _ :: _ => -1
  | _ :: _, [] => 1
  | x :: xs, y :: ys => if C x y = 0 then lexC C xs ys else C x y

theorem lexC_rng (h : PO C) : ∀ xs ys, lexC C xs ys = -1 ∨ lexC C xs ys = 0 ∨ lexC C xs ys = 1
  | [], [] => by simp [lexC]
  | [], _ :: _ => by simp [lexC]
  | _ :: _, [] => by simp [lexC]
  | x :: xs, y :: ys => by
    rw [lexC]
    split
    · exact lexC_rng h xs ys
    · exact h.rng x y
theorem lexC_anti (h : PO C) : ∀ xs ys, lexC C ys xs = - lexC C xs ys
  | [], [] => by simp [lexC]
  | [], _ :: _ => by simp [lexC]
  | _ :: _, [] => by simp [lexC]
  | x :: xs, y :: ys => by
    have := h.anti x y
    rw [lexC, lexC]
    by_cases e : C x y = 0
    · rw [if_pos e, if_pos (by omega)]; exact lexC_anti h xs ys
    · rw [if_neg e, if_neg (by omega)]; exact this
theorem lexC_trans (h : PO C) : ∀ xs ys zs, lexC C xs ys ≤ 0 → lexC C ys zs ≤ 0 → lexC C xs zs ≤ 0
  | [], _, [], _, _ => by simp [lexC]
  | [], _, _ :: _, _, _ => by simp [lexC]
  | _ :: _, [], _, h1, _ => by simp [lexC] at h1
  | _ :: _, _ :: _, [], _, h2 => by simp [lexC] at h2
  | x :: xs, y :: ys, z :: zs, h1, h2 => by
    rw [lexC] at *
    by_cases e1 : C x y = 0
    · rw [if_pos e1] at h1
      rw [h.eq_eq e1 z]
      by_cases e2 : C y z = 0
      · rw [if_pos e2] at h2 ⊢
        exact lexC_trans h xs ys zs h1 h2
      · rw [if_neg e2] at h2 ⊢; exact h2
    · rw [if_neg e1] at h1
      have h3 : C y z ≤ 0 := by
        by_cases e2 : C y z = 0
        · omega
        · rwa [if_neg e2] at h2
      have := h.lt_le (show C x y < 0 by omega) h3
      rw [if_neg (by omega)]; omega
theorem PO.lex (h : PO C) : PO (lexC C) := ⟨lexC_rng h, lexC_anti h, lexC_trans h⟩
theorem lexC_eq (P : α → Prop) (he : ∀ x y, P x → P y → C x y = 0 → x = y) : ∀ xs ys, (∀ x ∈ xs, P x) → (∀ y ∈ ys, P y) → lexC C xs ys = 0 → xs = ys
  | [], [], _, _, _ => rfl
  | [], _ :: _, _, _, h => by simp [lexC] at h
  | _ :: _, [], _, _, h => by simp [lexC] at h
  | x :: xs, y :: ys, hx, hy, h => by
    rw [lexC] at h
    by_cases e : C x y = 0
    · rw [if_pos e] at h
      rw [he x y (hx x (List.mem_cons_self ..)) (hy y (List.mem_cons_self ..)) e, lexC_eq P he xs ys (fun a ha => hx a (List.mem_cons_of_mem _ ha)) (fun a ha => hy a (List.mem_cons_of_mem _ ha)) h]
    · rw [if_neg e] at h; exact absurd h e
end

/-- the order of numbers -/
def cmpN (x y : Nat) : Int := if x < y then -1 else if y < x then 1 else 0
theorem cmpN_po : PO cmpN where
  rng x y := by unfold cmpN; (repeat' split) <;> simp
  anti x y := by unfold cmpN; (repeat' split) <;> omega
  trans x y z := by unfold cmpN; (repeat' split) <;> omega
theorem cmpN_eq {x y : Nat} (h : cmpN x y = 0) : x = y := by unfold cmpN at h; (repeat' split at h) <;> omega

/-- the order of byte strings -/
def cmpB (c d : UInt8) : Int := cmpN c.toNat d.toNat
def cmpS : List UInt8 → List UInt8 → Int := lexC cmpB
theorem cmpS_po : PO cmpS := (cmpN_po.comp UInt8.toNat).lex
theorem cmpS_eq {x y : List UInt8} (h : cmpS x y = 0) : x = y :=
  lexC_eq (fun _ => True) (fun _ _ _ _ e => UInt8.toNat_inj.1 (cmpN_eq e)) x y (fun _ _ => trivial) (fun _ _ => trivial) h
theorem cmpS_lt : ∀ x y : List UInt8, cmpS x y = -1 ↔ x < y
  | [], [] => by simp [cmpS, lexC]
  | [], _ :: _ => by simp [cmpS, lexC]
  | _ :: _, [] => by simp [cmpS, lexC]
  | c :: x, d :: y => by
    have ih := cmpS_lt x y
    rw [List.cons_lt_cons_iff, ← ih]
    unfold cmpS
    rw [lexC]
    have e1 : c < d ↔ c.toNat < d.toNat := UInt8.lt_iff_toNat_lt
    have e2 : c = d ↔ c.toNat = d.toNat := UInt8.toNat_inj.symm
    rw [e1, e2]
    unfold cmpB cmpN
    by_cases h1 : c.toNat < d.toNat
    · simp [h1]
    · by_cases h2 : d.toNat < c.toNat
      · simp [h1, h2]; omega
      · have h3 : c.toNat = d.toNat := by omega
        simp [h3]

/-- a run without its leading zeros -/
def stripF (x : List UInt8) : List UInt8 := x.dropWhile (· == 48)
def numF : List UInt8 → List UInt8 → Int :=
  thenC (fun x y => cmpN (stripF x).length (stripF y).length) (thenC (fun x y => cmpS (stripF x) (stripF y)) (fun x y => cmpN x.length y.length))
theorem numF_po : PO numF := (cmpN_po.comp fun x => (stripF x).length).thenC ((cmpS_po.comp stripF).thenC (cmpN_po.comp List.length))
theorem thenC_zero {α : Type} {C D : α → α → Int} {x y : α} (h : thenC C D x y = 0) : C x y = 0 ∧ D x y = 0 := by
  unfold thenC at h
  by_cases e : C x y = 0
  · rw [if_pos e] at h; exact ⟨e, h⟩
  · rw [if_neg e] at h; exact absurd h e
theorem strip_split : ∀ x : List UInt8, x = List.replicate (x.length - (stripF x).length) 48 ++ stripF x ∧ (stripF x).length ≤ x.length
  | [] => by simp [stripF]
  | c :: r => by
    obtain ⟨h1, h2⟩ := strip_split r
    by_cases hc : c = 48
    · subst hc
      have e : stripF (48 :: r) = stripF r := by unfold stripF; rw [List.dropWhile_cons, if_pos (by decide)]
      rw [e]
      refine ⟨?_, by rw [List.length_cons]; omega⟩
      rw [List.length_cons, show r.length + 1 - (stripF r).length = (r.length - (stripF r).length) + 1 by omega, List.replicate_succ, List.cons_append, ← h1]
    · have e : stripF (c :: r) = c :: r := by unfold stripF; rw [List.dropWhile_cons, if_neg (by simpa using hc)]
      rw [e]
      exact ⟨by simp, Nat.le_refl _⟩
theorem numF_eq {x y : List UInt8} (h : numF x y = 0) : x = y := by
  obtain ⟨_, h2⟩ := thenC_zero h
  obtain ⟨h2, h3⟩ := thenC_zero h2
  have e2 := cmpS_eq h2
  have e3 := cmpN_eq h3
  rw [(strip_split x).1, (strip_split y).1, e2, e3]

/-- the class of a token, and its digits -/
def clsT (x : List UInt8) : Nat := if digF (x.headD 0) then 48 else (x.headD 0).toNat
def digT (x : List UInt8) : List UInt8 := if digF (x.headD 0) then x else []
def tokC : List UInt8 → List UInt8 → Int := thenC (fun x y => cmpN (clsT x) (clsT y)) (fun x y => numF (digT x) (digT y))
theorem tokC_po : PO tokC := (cmpN_po.comp clsT).thenC (numF_po.comp digT)

def tokP (x : List UInt8) : Prop := digF (x.headD 0) = true ∨ ∃ c, x = [c] ∧ digF c = false
theorem digF_48 : ∀ c : UInt8, digF c = false → c.toNat ≠ 48 := by
  intro c h h2
  unfold digF at h
  rw [h2] at h
  exact absurd h (by decide)
theorem tokC_eq (x y : List UInt8) (hx : tokP x) (hy : tokP y) (h : tokC x y = 0) : x = y := by
  obtain ⟨h1, h2⟩ := thenC_zero h
  have e1 := cmpN_eq h1
  have e2 := numF_eq h2
  unfold clsT digT at *
  rcases hx with hx | ⟨c, rfl, hc⟩ <;> rcases hy with hy | ⟨d, rfl, hd⟩
  · rw [if_pos hx, if_pos hy] at e2; exact e2
  · rw [if_pos hx] at e1
    simp [hd] at e1
    exact absurd e1.symm (digF_48 d hd)
  · rw [if_pos hy] at e1
    simp [hc] at e1
    exact absurd e1 (digF_48 c hc)
  · simp [hc, hd] at e1
    rw [UInt8.toNat_inj.1 e1]

/-- the tokens of a string: runs of digits and single bytes -/
def tokTo : Nat → List UInt8 → List (List UInt8)
  | 0, _ => []
  | _ + 1, [] => []
  | f + 1, c :: r => if digF c then ((c :: r).takeWhile digF) :: tokTo f ((c :: r).dropWhile digF) else [c] :: tokTo f r
theorem drop_len (p : UInt8 → Bool) : ∀ l : List UInt8, (l.dropWhile p).length ≤ l.length
  | [] => Nat.le_refl _
  | c :: r => by
    rw [List.dropWhile_cons]
    have := drop_len p r
    split
    · rw [List.length_cons]; omega
    · exact Nat.le_refl _
theorem drop_lt {c : UInt8} {r : List UInt8} (h : digF c = true) : ((c :: r).dropWhile digF).length ≤ r.length := by
  rw [List.dropWhile_cons, if_pos h]; exact drop_len digF r
theorem tokTo_fuel : ∀ (f g : Nat) (l : List UInt8), l.length ≤ f → l.length ≤ g → tokTo f l = tokTo g l
  | 0, 0, _, _, _ => rfl
  | 0, _ + 1, [], _, _ => rfl
  | 0, _ + 1, _ :: _, h, _ => by simp at h
  | _ + 1, 0, [], _, _ => rfl
  | _ + 1, 0, _ :: _, _, h => by simp at h
  | _ + 1, _ + 1, [], _, _ => rfl
  | f + 1, g + 1, c :: r, h1, h2 => by
    rw [List.length_cons] at h1 h2
    rw [tokTo, tokTo]
    by_cases hc : digF c = true
    · have := drop_lt (r := r) hc
      rw [if_pos hc, if_pos hc, tokTo_fuel f g _ (by omega) (by omega)]
    · rw [if_neg hc, if_neg hc, tokTo_fuel f g _ (by omega) (by omega)]
def tok (l : List UInt8) : List (List UInt8) := tokTo l.length l
theorem tok_cons (c : UInt8) (r : List UInt8) : tok (c :: r) = if digF c then ((c :: r).takeWhile digF) :: tok ((c :: r).dropWhile digF) else [c] :: tok r := by
  unfold tok
  rw [List.length_cons, tokTo]
  by_cases hc : digF c = true
  · have := drop_lt (r := r) hc
    rw [if_pos hc, if_pos hc, tokTo_fuel r.length _ _ (by omega) (Nat.le_refl _)]
  · rw [if_neg hc, if_neg hc]
theorem tokTo_join : ∀ (f : Nat) (l : List UInt8), l.length ≤ f → (tokTo f l).flatten = l
  | 0, [], _ => rfl
  | 0, _ :: _, h => by simp at h
  | _ + 1, [], _ => rfl
  | f + 1, c :: r, h => by
    rw [List.length_cons] at h
    rw [tokTo]
    by_cases hc : digF c = true
    · have := drop_lt (r := r) hc
      rw [if_pos hc, List.flatten_cons, tokTo_join f _ (by omega)]
      exact List.takeWhile_append_dropWhile
    · rw [if_neg hc, List.flatten_cons, tokTo_join f _ (by omega)]; rfl
theorem tokTo_p : ∀ (f : Nat) (l : List UInt8), ∀ x ∈ tokTo f l, tokP x
  | 0, _, x, h => by simp [tokTo] at h
  | _ + 1, [], x, h => by simp [tokTo] at h
  | f + 1, c :: r, x, h => by
    rw [tokTo] at h
    by_cases hc : digF c = true
    · rw [if_pos hc] at h
      rcases List.mem_cons.1 h with rfl | h
      · left; rw [List.takeWhile_cons, if_pos hc]; exact hc
      · exact tokTo_p f _ x h
    · rw [if_neg hc] at h
      rcases List.mem_cons.1 h with rfl | h
      · right; exact ⟨c, rfl, by simpa using hc⟩
      · exact tokTo_p f _ x h

/-- natural order -/
def natC (a b : List UInt8) : Int := lexC tokC (tok a) (tok b)
theorem natC_po : PO natC := tokC_po.lex.comp tok
theorem natC_eq {a b : List UInt8} (h : natC a b = 0) : a = b := by
  have e := lexC_eq tokP tokC_eq (tok a) (tok b) (tokTo_p _ _) (tokTo_p _ _) h
  rw [← tokTo_join a.length a (Nat.le_refl _), ← tokTo_join b.length b (Nat.le_refl _)]
  exact congrArg List.flatten e
theorem tok_ne {c : UInt8} {r : List UInt8} : ∃ t ts, tok (c :: r) = t :: ts := by
  rw [tok_cons]; split <;> exact ⟨_, _, rfl⟩
theorem natC_end {a b : List UInt8} (h : a = [] ∨ b = []) : natC a b = cmpN a.length b.length := by
  unfold natC
  cases a with
  | nil =>
    cases b with
    | nil => rfl
    | cons d b => obtain ⟨t, ts, e⟩ := tok_ne (c := d) (r := b); rw [e]; rfl
  | cons c a =>
    cases b with
    | nil => obtain ⟨t, ts, e⟩ := tok_ne (c := c) (r := a); rw [e]; rfl
    | cons d b => rcases h with h | h <;> cases h
theorem natC_dig {c d : UInt8} {a b : List UInt8} (hc : digF c = true) (hd : digF d = true) :
    natC (c :: a) (d :: b) = if numF ((c :: a).takeWhile digF) ((d :: b).takeWhile digF) = 0 then natC ((c :: a).dropWhile digF) ((d :: b).dropWhile digF) else numF ((c :: a).takeWhile digF) ((d :: b).takeWhile digF) := by
  unfold natC
  rw [tok_cons, tok_cons, if_pos hc, if_pos hd, lexC]
  have e : tokC ((c :: a).takeWhile digF) ((d :: b).takeWhile digF) = numF ((c :: a).takeWhile digF) ((d :: b).takeWhile digF) := by
    rw [List.takeWhile_cons, if_pos hc, List.takeWhile_cons, if_pos hd]
    unfold tokC thenC
    simp [clsT, digT, hc, hd, cmpN]
  rw [e]
theorem digF_iff (c : UInt8) : digF c = true ↔ 48 ≤ c.toNat ∧ c.toNat ≤ 57 := by unfold digF; simp
theorem natC_byte {c d : UInt8} {a b : List UInt8} (h : ¬ (digF c = true ∧ digF d = true)) :
    natC (c :: a) (d :: b) = if c = d then natC a b else cmpN c.toNat d.toNat := by
  unfold natC
  have hx : ∀ (e : UInt8) (l : List UInt8), (if digF e = true then (e :: l).takeWhile digF else [e]).headD 0 = e := by
    intro e l
    split
    · rename_i h; rw [List.takeWhile_cons, if_pos h]; rfl
    · rfl
  have key : ∀ x y : List UInt8, x.headD 0 = c → y.headD 0 = d → c ≠ d → tokC x y = cmpN c.toNat d.toNat := by
    intro x y hx hy hne
    have hne2 : c.toNat ≠ d.toNat := fun e => hne (UInt8.toNat_inj.1 e)
    have e0 : cmpN (clsT x) (clsT y) = cmpN c.toNat d.toNat := by
      unfold clsT
      rw [hx, hy]
      by_cases hc : digF c = true
      · have hd : ¬ digF d = true := fun hd => h ⟨hc, hd⟩
        rw [if_pos hc, if_neg hd]
        have r1 := (digF_iff c).1 hc
        have r2 : ¬ (48 ≤ d.toNat ∧ d.toNat ≤ 57) := fun r => hd ((digF_iff d).2 r)
        unfold cmpN
        (repeat' split) <;> omega
      · rw [if_neg hc]
        by_cases hd : digF d = true
        · rw [if_pos hd]
          have r1 := (digF_iff d).1 hd
          have r2 : ¬ (48 ≤ c.toNat ∧ c.toNat ≤ 57) := fun r => hc ((digF_iff c).2 r)
          unfold cmpN
          (repeat' split) <;> omega
        · rw [if_neg hd]
    have e1 : cmpN (clsT x) (clsT y) ≠ 0 := by rw [e0]; exact fun h0 => hne2 (cmpN_eq h0)
    unfold tokC thenC
    show (if cmpN (clsT x) (clsT y) = 0 then _ else cmpN (clsT x) (clsT y)) = _
    rw [if_neg e1, e0]
  by_cases e : c = d
  · subst e
    have hc : ¬ digF c = true := fun hc => h ⟨hc, hc⟩
    rw [if_pos rfl, tok_cons, tok_cons, if_neg hc, if_neg hc, lexC, if_pos (tokC_po.refl _)]
  · rw [if_neg e, tok_cons, tok_cons]
    have e2 : cmpN c.toNat d.toNat ≠ 0 := fun h0 => e (UInt8.toNat_inj.1 (cmpN_eq h0))
    have hk : ∀ x y, x.headD 0 = c → y.headD 0 = d → ∀ xs ys, lexC tokC (x :: xs) (y :: ys) = cmpN c.toNat d.toNat := by
      intro x y hx hy xs ys
      rw [lexC, key x y hx hy e, if_neg e2]
    by_cases hc : digF c = true
    · have hd : ¬ digF d = true := fun hd => h ⟨hc, hd⟩
      rw [if_pos hc, if_neg hd]
      exact hk _ _ (by rw [List.takeWhile_cons, if_pos hc]; rfl) rfl _ _
    · rw [if_neg hc]
      by_cases hd : digF d = true
      · rw [if_pos hd]
        exact hk _ _ rfl (by rw [List.takeWhile_cons, if_pos hd]; rfl) _ _
      · rw [if_neg hd]
        exact hk _ _ rfl rfl _ _
end Go.Proofs.YtghahghbahcpfaaGreatDoor
/- Plain laws on sorted lists in natural order: what is sorted and cleared of neighbours that are equal is the document's insertion. No program in sight. -/
namespace Go.Proofs.YtghahghbahcpfaaGreatDoor
open Go.RowKit

abbrev Bs := List UInt8
theorem lt_irr {x : Bs} (h : natC x x < 0) : False := by have := natC_po.refl x; omega
theorem lt_asy {x y : Bs} (h : natC x y < 0) (k : natC y x < 0) : False := by have := natC_po.anti x y; omega
theorem lt_tr {x y z : Bs} (h : natC x y < 0) (k : natC y z < 0) : natC x z < 0 := natC_po.lt_le h (by omega)

open Go.Sort in
/-- 'less' by natural order is a strict weak order -/
theorem nat_swo : SWO (ltOf natC) where
  irrefl x := by unfold ltOf; rw [natC_po.refl]; rfl
  trans x y z h1 h2 := by
    unfold ltOf at *
    rw [decide_eq_true_eq] at *
    exact lt_tr h1 h2
  ntrans x y z h1 h2 := by
    unfold ltOf at *
    rw [decide_eq_false_iff_not] at *
    have t := natC_po.trans z y x
    have a1 := natC_po.anti x y
    have a2 := natC_po.anti y z
    have a3 := natC_po.anti x z
    omega

end Go.Proofs.YtghahghbahcpfaaGreatDoor
/- Lists ascending by a name, whatever lies with the names: unique, insertion; no program in sight. -/
namespace Go.Proofs.YtghahghbahcpfaaGreatDoor

section
variable {α : Type} (nm : α → Bs)
def AscN (l : List α) : Prop := l.Pairwise (fun x y => natC (nm x) (nm y) < 0)
variable {nm}
theorem ascN_ext : ∀ (l m : List α), AscN nm l → AscN nm m → (∀ x, x ∈ l ↔ x ∈ m) → l = m
  | [], [], _, _, _ => rfl
  | [], y :: m, _, _, h => by have := (h y).2 (List.mem_cons_self ..); simp at this
  | x :: l, [], _, _, h => by have := (h x).1 (List.mem_cons_self ..); simp at this
  | x :: l, y :: m, hl, hm, h => by
    unfold AscN at hl hm
    rw [List.pairwise_cons] at hl hm
    have e : x = y := by
      rcases List.mem_cons.1 ((h x).1 (List.mem_cons_self ..)) with h1 | h1
      · exact h1
      · rcases List.mem_cons.1 ((h y).2 (List.mem_cons_self ..)) with h2 | h2
        · exact h2.symm
        · exact (lt_asy (hl.1 y h2) (hm.1 x h1)).elim
    subst e
    rw [ascN_ext l m hl.2 hm.2 fun z => by
      constructor
      · intro hz
        rcases List.mem_cons.1 ((h z).1 (List.mem_cons_of_mem _ hz)) with rfl | h1
        · exact (lt_irr (hl.1 z hz)).elim
        · exact h1
      · intro hz
        rcases List.mem_cons.1 ((h z).2 (List.mem_cons_of_mem _ hz)) with rfl | h1
        · exact (lt_irr (hm.1 z hz)).elim
        · exact h1]
/-- one more, ahead of the first whose name is greater -/
def insN (nm : α → Bs) (x : α) : List α → List α
  | [] => [x]
  | y :: l => if natC (nm x) (nm y) < 0 then x :: y :: l else y :: insN nm x l
theorem insN_perm (x : α) : ∀ l, (insN nm x l).Perm (x :: l)
  | [] => List.Perm.refl _
  | y :: l => by
    rw [insN]
    split
    · exact List.Perm.refl _
    · exact ((insN_perm x l).cons y).trans (List.Perm.swap x y l)
theorem insN_asc {x : α} : ∀ {l : List α}, AscN nm l → nm x ∉ l.map nm → AscN nm (insN nm x l)
  | [], _, _ => by rw [insN]; exact List.pairwise_singleton ..
  | y :: l, h, hx => by
    unfold AscN at h
    rw [List.pairwise_cons] at h
    rw [insN]
    by_cases hc : natC (nm x) (nm y) < 0
    · rw [if_pos hc]
      refine List.pairwise_cons.2 ⟨fun z hz => ?_, List.pairwise_cons.2 h⟩
      rcases List.mem_cons.1 hz with rfl | hz
      · exact hc
      · exact lt_tr hc (h.1 z hz)
    · rw [if_neg hc]
      refine List.pairwise_cons.2 ⟨fun z hz => ?_, insN_asc h.2 fun hm => hx (by rw [List.map_cons]; exact List.mem_cons_of_mem _ hm)⟩
      rcases List.mem_cons.1 ((insN_perm x l).mem_iff.1 hz) with rfl | hz
      · have ha := natC_po.anti (nm z) (nm y)
        have hne : natC (nm z) (nm y) ≠ 0 := fun e => hx (by rw [List.map_cons, natC_eq e]; exact List.mem_cons_self ..)
        omega
      · exact h.1 z hz
def sortN (nm : α → Bs) (l : List α) : List α := l.foldl (fun L x => insN nm x L) []
theorem foldN_perm : ∀ (rs L : List α), (rs.foldl (fun L x => insN nm x L) L).Perm (L ++ rs)
  | [], L => by rw [List.append_nil]; exact List.Perm.refl _
  | q :: rs, L => by
    rw [List.foldl_cons]
    refine (foldN_perm rs (insN nm q L)).trans ?_
    refine ((insN_perm q L).append_right rs).trans ?_
    rw [List.cons_append]
    exact List.perm_middle.symm
theorem sortN_perm (rs : List α) : (sortN nm rs).Perm rs := foldN_perm rs []
theorem foldN_asc : ∀ (rs L : List α), AscN nm L → ((L ++ rs).map nm).Nodup → AscN nm (rs.foldl (fun L x => insN nm x L) L)
  | [], L, h, _ => h
  | q :: rs, L, h, hn => by
    rw [List.foldl_cons]
    have hn2 : ((insN nm q L ++ rs).map nm).Nodup := by
      have hp : (insN nm q L ++ rs).Perm (L ++ q :: rs) := by
        refine ((insN_perm q L).append_right rs).trans ?_
        rw [List.cons_append]
        exact List.perm_middle.symm
      exact (hp.map nm).nodup_iff.2 hn
    refine foldN_asc rs _ (insN_asc h ?_) hn2
    intro hm
    rw [List.map_append, List.nodup_append] at hn
    exact hn.2.2 _ hm _ (by rw [List.map_cons]; exact List.mem_cons_self ..) rfl
theorem sortN_asc {rs : List α} (hn : (rs.map nm).Nodup) : AscN nm (sortN nm rs) := foldN_asc rs [] List.Pairwise.nil (by rw [List.nil_append]; exact hn)
/-- what a sort leaves -/
theorem sortedN {rs ms : List α} (hn : (rs.map nm).Nodup) (hp : ms.Perm rs) (hs : ∀ i j, i < j → (hj : j < ms.length) → (hi : i < ms.length) → ¬ natC (nm ms[j]) (nm ms[i]) < 0) : ms = sortN nm rs := by
  refine ascN_ext _ _ ?_ (sortN_asc hn) fun _ => (hp.trans (sortN_perm rs).symm).mem_iff
  refine List.pairwise_iff_getElem.2 fun i j hi hj hij => ?_
  have h1 := hs i j hij hj hi
  have h2 := natC_po.anti (nm ms[i]) (nm ms[j])
  have h3 : natC (nm ms[i]) (nm ms[j]) ≠ 0 := fun e => by
    have hnm : (ms.map nm).Nodup := (hp.map nm).nodup_iff.2 hn
    have := List.pairwise_iff_getElem.1 hnm i j (by simpa using hi) (by simpa using hj) hij
    rw [List.getElem_map, List.getElem_map] at this
    exact this (natC_eq e)
  omega
end
end Go.Proofs.YtghahghbahcpfaaGreatDoor
/- What an execution in the sandbox answers, as plain functions; no program in sight. -/
namespace Go.Proofs.YtghahghbahcpfaaGreatDoor

abbrev bs (s : ByteArray) : List UInt8 := s.data.toList
structure OutM where
  name : ByteArray
  dig : Nat
  size : Int
structure FileM where
  path : ByteArray
  dig : Nat
structure EntM where
  proj : ByteArray
  trust : Int
  ref : ByteArray
  key : ByteArray
  dig : Nat
  size : Int
  created : Int
  used : Int
structure SecM where
  name : ByteArray
  text : ByteArray
  level : Int
  refs : List ByteArray
  envs : List ByteArray
structure TimM where
  name : ByteArray
  time : Int
structure TstM where
  name : ByteArray
  status : Int
  time : Int
structure StepM where
  op : Int
  name : ByteArray
  text : ByteArray
  n : Int
structure ViewM where
  files : List FileM
  arts : List OutM
  secs : List SecM
  caches : List EntM
  keys : List ByteArray
  tests : List ByteArray
  times : List TimM
  ignored : List ByteArray
  attempt : Int
/-- what an execution asks of a job; D: the patterns of its inputs, one after the other -/
structure JobM where
  steps : List StepM
  timeout : Int
  inputs : List ByteArray
  uses : List ByteArray
  outputs : List ByteArray
  ncach : Nat
  secrets : List ByteArray
  child : Bool

/-! ### numbers -/
def addI (a b : Int) : Int := max (-9223372036854775808) (min (a + b) 9223372036854775807)
def limI (n : Int) : Int := max 0 (min n 1125899906842624)
def u64I (z : Int) : Nat := (z % 18446744073709551616).toNat
/-! ### digests -/
def sumS (s : ByteArray) : Nat := sumN (bs s)
def memoF (k : ByteArray) : Nat := ofN [107, 101, 121] [sumS k]
def sizeF (d : Nat) : Int := 1 + ((d % 65536 : Nat) : Int)
/-- "step" -/
def stepD (s : StepM) : Nat := ofN [115, 116, 101, 112] [u64I s.op, sumS s.name, sumS s.text]
/-- "job" -/
def beginF (l : List StepM) : Nat := ofN [106, 111, 98] (l.map stepD)

/-! ### lists -/
def putF (l : List OutM) (o : OutM) : List OutM := match l.findIdx? (fun y => decide (y.name = o.name)) with
  | none => l ++ [o]
  | some i => l.set i o
abbrev nmO (o : OutM) : List UInt8 := o.name.data.toList
def fileF (v : ViewM) (p : ByteArray) : Option FileM := v.files.find? fun f => decide (f.path = p)
def artF (v : ViewM) (p : ByteArray) : Option OutM := v.arts.find? fun o => decide (o.name = p)
def secF (v : ViewM) (p : ByteArray) : Option SecM := v.secs.find? fun s => decide (s.name = p)
def classF (ok : Bool) (other : Int) : Int := if ok = true then 0 else other
/-- the class with which a step is refused -/
def refusedF (D : ByteArray → Bool) (j : JobM) (v : ViewM) (s : StepM) : Int :=
  if s.op = 1 then classF (D s.name) 6 + classF (!(D s.name && (fileF v s.name).isNone)) 7
  else if s.op = 2 then classF (j.uses.contains s.name) 6 + classF (!(j.uses.contains s.name && (artF v s.name).isNone)) 7
  else if s.op = 7 ∨ s.op = 3 then classF ((secF v s.name).isSome && j.secrets.contains s.name) 6
  else if s.op = 4 then classF (decide (0 ≤ s.n ∧ s.n < (j.ncach : Int))) 6 + classF (!(decide (0 ≤ s.n ∧ s.n < (j.ncach : Int)) && (decide ((v.keys.length : Int) ≤ s.n) || decide ((v.keys.getD s.n.toNat ByteArray.empty).size = 0)))) 7
  else if s.op = 5 then classF (j.outputs.contains s.name) 6
  else if s.op = 11 then classF j.child 6
  else if s.op = 6 ∨ s.op = 8 ∨ s.op = 9 ∨ s.op = 10 then 0
  else 6
/-- how far an execution has come -/
structure StM where
  acc : Nat
  time : Int
  log : List UInt8
  reads : List OutM
  outs : List OutM
  tests : List TstM
  saves : List EntM
  child : ByteArray
def keyF (v : ViewM) (n : Int) : ByteArray := v.keys.getD n.toNat ByteArray.empty
def knownF (v : ViewM) (saves : List EntM) (n : Int) : Bool :=
  saves.any (fun e => decide (e.key = keyF v n)) || (match v.caches[n.toNat]? with
    | none => false
    | some e => decide (e.key = keyF v n) && decide (e.dig = memoF (keyF v n)))
def timedF (v : ViewM) (name : ByteArray) : Int := match v.times.find? fun t => decide (t.name = name) with
  | none => 10
  | some t => limI t.time
def takesF (v : ViewM) (saves : List EntM) (s : StepM) : Int :=
  if s.op = 4 then (if knownF v saves s.n = true then 0 else 1000)
  else if s.op = 8 then v.tests.foldl (fun a t => addI a (timedF v t)) 0
  else if s.op = 10 then limI s.n
  else 0
/-- the words of a text -/
def splitS : List UInt8 → List UInt8 → List (List UInt8)
  | w, [] => [w]
  | w, c :: l => if c = 32 then w :: splitS [] l else splitS (w ++ [c]) l
def wordF (text : List UInt8) (s : List UInt8) : Bool := (splitS [] text).any fun w => decide (w = s) && decide (w ≠ [])
def failsF (v : ViewM) (s : StepM) (t : ByteArray) : Bool := decide (v.attempt < s.n) && wordF (bs s.text) (bs t)
def testsF (v : ViewM) (s : StepM) : List TstM := v.tests.map fun t => ⟨t, if failsF v s t = true then 2 else 1, timedF v t⟩
def badF (v : ViewM) (s : StepM) : Bool := v.tests.any fun t => failsF v s t && !v.ignored.contains t
/-- "file:" ahead of a path -/
def fileN (p : ByteArray) : ByteArray := ⟨(([102, 105, 108, 101, 58] : List UInt8) ++ bs p).toArray⟩
/-- what a step takes in -/
def takeF (v : ViewM) (x : StM) (s : StepM) : StM :=
  if s.op = 1 then (match fileF v s.name with
    | none => x
    | some f => { x with acc := ofN [114, 101, 97, 100] [x.acc, sumS f.path, f.dig], reads := putF x.reads ⟨fileN f.path, f.dig, 0⟩ })
  else if s.op = 2 then (match artF v s.name with
    | none => x
    | some o => { x with acc := ofN [117, 115, 101] [x.acc, sumS o.name, o.dig], reads := putF x.reads o })
  else if s.op = 3 then (match secF v s.name with
    | none => x
    | some t => { x with acc := ofN [115, 101, 99, 114, 101, 116] [x.acc, sumS t.text] })
  else if s.op = 4 then { x with acc := ofN [109, 101, 109, 111] [x.acc, memoF (keyF v s.n)], saves := if knownF v x.saves s.n = true then x.saves else x.saves ++ [⟨ByteArray.empty, 0, ByteArray.empty, keyF v s.n, memoF (keyF v s.n), sizeF (memoF (keyF v s.n)), 0, 0⟩] }
  else x
/-- what a step does, and the class of its failure -/
def performF (v : ViewM) (x : StM) (s : StepM) : StM × Int :=
  if s.op = 5 then ({ takeF v x s with outs := putF x.outs ⟨s.name, ofN [111, 117, 116] [sumS s.name, x.acc], sizeF (ofN [111, 117, 116] [sumS s.name, x.acc])⟩ }, 0)
  else if s.op = 6 then ({ takeF v x s with log := x.log ++ (bs s.text ++ [10]) }, 0)
  else if s.op = 7 then ({ takeF v x s with log := x.log ++ ((match secF v s.name with | none => [] | some t => bs t.text) ++ [10]) }, 0)
  else if s.op = 8 then ({ takeF v x s with tests := testsF v s }, if badF v s = true then 2 else 0)
  else if s.op = 9 then (takeF v x s, classF (decide (s.n ≠ 0) && decide (s.n ≤ v.attempt)) 1)
  else if s.op = 11 then ({ takeF v x s with child := s.text }, 0)
  else (takeF v x s, 0)
def stepF (D : ByteArray → Bool) (j : JobM) (v : ViewM) (x : StM) (s : StepM) : StM × Int :=
  if refusedF D j v s ≠ 0 then (x, refusedF D j v s)
  else if j.timeout < addI x.time (takesF v x.saves s) then ({ x with time := max j.timeout 0 }, 3)
  else performF v { x with time := addI x.time (takesF v x.saves s) } s
def runF (D : ByteArray → Bool) (j : JobM) (v : ViewM) (x : StM) : List StepM → StM × Int
  | [] => (x, 0)
  | s :: l => if (stepF D j v x s).2 ≠ 0 then stepF D j v x s else runF D j v (stepF D j v x s).1 l
structure EffM where
  status : Int
  cls : Int
  inputs : List OutM
  outputs : List OutM
  tests : List TstM
  child : ByteArray
  log : List UInt8
  time : Int
  saves : List EntM
def effectF (x : StM) (c : Int) : EffM where
  status := if c = 0 then 1 else 2
  cls := c
  inputs := sortN nmO x.reads
  outputs := if c = 0 then sortN nmO x.outs else []
  tests := x.tests
  child := if c = 0 then x.child else ByteArray.empty
  log := x.log.take 1048576
  time := x.time
  saves := x.saves
def st0 (j : JobM) : StM := ⟨beginF j.steps, 0, [], [], [], [], [], ByteArray.empty⟩
def execF (D : ByteArray → Bool) (j : JobM) (v : ViewM) : EffM := effectF (runF D j v (st0 j) j.steps).1 (runF D j v (st0 j) j.steps).2
end Go.Proofs.YtghahghbahcpfaaGreatDoor
