/- An argument that is a value, opened as a tree. -/
import Derived.Test.YtomecnncighkgaaGreatDoorVa1
import Derived.SliceStrings
import Derived.ProofKit
import Derived.OpenShut
import Derived.Deep.Slices
import Derived.Deep.Fields
import Derived.Lib.ItoaLen
import Derived.Lib.ItoaMem
import Derived.Deep.AppendLies
import Derived.Test.YtomecnncighkgaaGreatDoorRows
import Derived.SizedLaws
namespace Go.Proofs.YtomecnncighkgaaGreatDoor
open Go.ChangeShapes Go.WideShapes Go.Deep Go.RowKit

/-- the sizes that any memory has -/
def isI (n : Int) : Prop := -9223372036854775808 ≤ n ∧ n ≤ 9223372036854775807
mutual
def VT.wf : VT → Prop
  | .mk k _ n s L ks => isI k ∧ isI n ∧ s.size ≤ 9223372036854775807 ∧ L.length ≤ 9223372036854775807 ∧ ks.length ≤ 9223372036854775807 ∧ (∀ x ∈ ks, x.size ≤ 9223372036854775807) ∧ wfL L
def wfL : List VT → Prop
  | [] => True
  | t :: L => t.wf ∧ wfL L
end
theorem wfL_iff : ∀ L : List VT, wfL L ↔ ∀ t ∈ L, t.wf
  | [] => by simp [wfL]
  | t :: L => by rw [wfL, wfL_iff L]; simp
theorem VT.wf_parts {t : VT} (h : t.wf) : isI t.kind ∧ isI t.int ∧ t.str.size ≤ 9223372036854775807 ∧ t.list.length ≤ 9223372036854775807 ∧ t.keys.length ≤ 9223372036854775807 ∧ (∀ x ∈ t.keys, x.size ≤ 9223372036854775807) ∧ ∀ x ∈ t.list, x.wf := by
  cases t
  rw [VT.wf, wfL_iff] at h
  exact h

section
variable {H : Type} {enc : TypeId × Value → H} {P : Program} {w : World}
theorem list_ofV {α : Type} {R : Nat → α → Prop} : ∀ n : Nat, (∀ i, i < n → ∃ q, R i q) → ∃ qs : List α, qs.length = n ∧ ∀ (i : Nat) (h : i < qs.length), R i qs[i]
  | 0, _ => ⟨[], rfl, fun i h => by cases h⟩
  | n + 1, hR => by
    obtain ⟨qs, hl, hq⟩ := list_ofV n fun i hi => hR i (by omega)
    obtain ⟨q, hq'⟩ := hR n (by omega)
    refine ⟨qs ++ [q], by simp [hl], fun i h => ?_⟩
    by_cases hi : i < qs.length
    · rw [List.getElem_append_left hi]; exact hq i hi
    · have : i = n := by simp at h; omega
      subst this
      rw [List.getElem_append_right (by omega)]
      simp [hl]
      exact hq'
theorem six_of {l : List Value} (h : l.length = 6) : ∃ a b c d e f, l = [a, b, c, d, e, f] := by
  match l, h with
  | [a, b, c, d, e, f], _ => exact ⟨a, b, c, d, e, f, rfl⟩
/-- one field of a struct: a cell of its own -/
theorem field_atV {fs : Array Field} {n : Nat} {cs : List Value} {xs : List (DataW H × List MemPlace)} {i t : Nat} (hl : xs.length = fs.size)
    (hf : ∀ (i : Nat) (f : Field), fs[i]? = some f → DataW.trod enc P w 0 (fun _ => true) true n f.type ((cs.drop f.offset).take (P.cellsOf f.type)) = xs[i]?)
    (hfd : (fs[i]?).map (fun f => (f.type, f.offset)) = some (t, i)) (ht : P.cellsOf t = 1) : ∃ x, DataW.trod enc P w 0 (fun _ => true) true n t ((cs.drop i).take 1) = some x := by
  cases hfi : fs[i]? with
  | none => rw [hfi] at hfd; cases hfd
  | some f =>
    rw [hfi] at hfd
    simp only [Option.map_some, Option.some.injEq, Prod.mk.injEq] at hfd
    have h1 := hf i f hfi
    rw [hfd.1, hfd.2, ht] at h1
    have hi : i < xs.length := by rw [hl]; exact (Array.getElem?_eq_some_iff.1 hfi).1
    exact ⟨xs[i], h1.trans (List.getElem?_eq_getElem hi)⟩
/-- where a cell lies -/
theorem place_of {b off : Nat} {sp : Option Nat} {u : Value} (hc0 : w.cell? ⟨b, off, sp⟩ = some u) : sp = none ∧ b < w.heap.size := by
  constructor
  · unfold World.cell? at hc0
    split at hc0
    · split at hc0
      · cases hc0
      · rename_i h; simpa using h
    · cases hc0
  · unfold World.cell? at hc0
    cases hb : w.heap[b]? with
    | none => simp only [hb] at hc0; cases hc0
    | some o => exact (Array.getElem?_eq_some_iff.1 hb).1
/-- a slice of strings, as a cell -/
theorem open_strsV {t : TypeId} (ht : P.underlying t = some (.slice 9)) (h9 : P.underlying 9 = some .string) (hc : P.cellsOf 9 = 1) {n : Nat} {cs : List Value} {x : DataW H × List MemPlace} (hf : DataW.trod enc P w 0 (fun _ => true) true n t cs = some x) :
    ∃ v ss, cs = [v] ∧ StrsAt w v ss ∧ (∀ s ∈ ss, s.size ≤ 9223372036854775807) ∧ ss.length ≤ 9223372036854775807 := by
  rcases open_strings ht h9 hc hf with ⟨hcs, _⟩ | ⟨a, len, cap, ss, hcs, _, hl, hm, hz, _, hcell, hws⟩
  · exact ⟨_, [], hcs, .inl ⟨_, _, rfl, rfl⟩, fun s h => (by cases h), by decide⟩
  · simp only [if_true] at hz
    have hlen : (ss.take len).length = len := by simp; omega
    have hml : len ≤ 9223372036854775807 := Nat.le_trans hl hm
    have key : ∀ i, i < len → w.cell? (a.add i) = some (.string ((ss.take len).getD i ByteArray.empty)) := by
      intro i hi
      rw [hcell i (by omega)]
      simp [List.getD, hi]
    by_cases h0 : len = 0
    · subst h0
      exact ⟨_, [], hcs, .inl ⟨_, _, rfl, rfl⟩, fun s h => (by cases h), by decide⟩
    · obtain ⟨b, off, sp⟩ := a
      have hc0 := key 0 (by omega)
      rw [show (⟨b, off, sp⟩ : Addr).add 0 = ⟨b, off, sp⟩ from rfl] at hc0
      obtain ⟨rfl, hb⟩ := place_of hc0
      refine ⟨_, ss.take len, hcs, .inr ⟨b, off, cap, by rw [hlen], hb, by rw [hlen]; omega, fun i hi => ?_⟩, fun s hs => hws s (List.mem_of_mem_take hs), by rw [hlen]; exact hml⟩
      rw [← key i (by omega)]
      congr 1
      unfold Addr.add
      split
      · rename_i h; subst h; rfl
      · rfl

/-- what the program's table says of the type of values -/
structure VTypes (P : Program) (tV tL tK : TypeId) : Prop where
  st : ∃ fs, P.underlying tV = some (.struct fs) ∧ (fs[0]?).map (fun f => (f.type, f.offset)) = some (3, 0) ∧ (fs[1]?).map (fun f => (f.type, f.offset)) = some (4, 1) ∧ (fs[2]?).map (fun f => (f.type, f.offset)) = some (3, 2) ∧
    (fs[3]?).map (fun f => (f.type, f.offset)) = some (9, 3) ∧ (fs[4]?).map (fun f => (f.type, f.offset)) = some (tL, 4) ∧ (fs[5]?).map (fun f => (f.type, f.offset)) = some (tK, 5)
  c : P.cellsOf tV = 6 ∧ P.cellsOf 3 = 1 ∧ P.cellsOf 4 = 1 ∧ P.cellsOf 9 = 1 ∧ P.cellsOf tL = 1 ∧ P.cellsOf tK = 1
  u : P.underlying 3 = some (.int .i64) ∧ P.underlying 4 = some .bool ∧ P.underlying 9 = some .string ∧ P.underlying tL = some (.slice tV) ∧ P.underlying tK = some (.slice 9)
theorem wf_int {n : Int} (h : (Lit.int .i64 n).wf = true) : isI n := by
  unfold Lit.wf at h
  unfold isI
  have e1 : IntKind.i64.min = -9223372036854775808 := rfl
  have e2 : IntKind.i64.max = 9223372036854775807 := rfl
  simp [e1, e2] at h
  omega

/-- a slice of things of six cells or seven, each read at less fuel -/
theorem row_of {α : Type} {R : List Value → α → Prop} {sz : Nat} {t e : TypeId} (hC : P.cellsOf e = sz) (ht : P.underlying t = some (.slice e)) {n : Nat} {v : Value} {x : DataW H × List MemPlace} (hsz : 0 < sz)
    (hne : ∀ cs a, R cs a → cs.length = sz)
    (hel : ∀ (m : Nat) (cs : List Value) (y : DataW H × List MemPlace), m < n → DataW.trod enc P w 0 (fun _ => true) true m e cs = some y → ∃ a : α, R cs a)
    (h : DataW.trod enc P w 0 (fun _ => true) true n t [v] = some x) :
    ∃ L : List α, L.length ≤ 9223372036854775807 ∧ ((∃ ao cap, v = .slice ao 0 cap ∧ L = []) ∨ ∃ bl off cap, v = .slice (some ⟨bl, off, none⟩) L.length cap ∧ bl < w.heap.size ∧ L.length ≤ cap ∧
      ∀ k (hk : k < L.length), ∃ cs, (∀ j u, cs[j]? = some u → w.cell? ⟨bl, off + k * sz + j, none⟩ = some u) ∧ R cs L[k]) := by
  rcases DataW.trod_slice ht h with ⟨hcs, _⟩ | ⟨a, len, cap, elems, rest, m, rfl, hcs, _, _, hlc, hcm, hel2, hi, _, _⟩
  · injection hcs with hv
    exact ⟨[], by simp, .inl ⟨none, 0, hv, rfl⟩⟩
  · injection hcs with hv
    subst hv
    have hml : len ≤ 9223372036854775807 := Nat.le_trans hlc hcm
    rw [hC] at hi
    obtain ⟨L, hLl, hL⟩ := list_ofV (R := fun i (q : α) => ∃ cs, (∀ j u, cs[j]? = some u → w.cell? ((a.add (i * sz)).add j) = some u) ∧ R cs q) len (fun i him => by
      have h1 := hi i him
      rw [List.getElem?_eq_getElem (by rw [hel2]; exact him)] at h1
      obtain ⟨cs', hc, ht'⟩ := Option.bind_eq_some_iff.1 h1
      obtain ⟨y, hy⟩ := hel m cs' _ (Nat.lt_succ_self _) ht'
      obtain ⟨_, hcl, hat⟩ := World.cells?_some hc
      refine ⟨y, cs', fun j u hj => ?_, hy⟩
      have hjl := (List.getElem?_eq_some_iff.1 hj).1
      rw [hne cs' y hy] at hjl
      rw [hat j hjl, hj])
    refine ⟨L, by rw [hLl]; exact hml, ?_⟩
    by_cases h0 : len = 0
    · subst h0
      exact .inl ⟨_, _, rfl, List.length_eq_zero_iff.1 hLl⟩
    · obtain ⟨b, off, sp⟩ := a
      obtain ⟨cs, hc0, hr0⟩ := hL 0 (by omega)
      have hl6 := hne _ _ hr0
      have hq := hc0 0 (cs[0]'(by omega)) (List.getElem?_eq_getElem _)
      rw [Nat.zero_mul, show ((⟨b, off, sp⟩ : Addr).add 0).add 0 = ⟨b, off, sp⟩ from rfl] at hq
      obtain ⟨rfl, hbl⟩ := place_of hq
      refine .inr ⟨b, off, cap, by rw [hLl], hbl, by rw [hLl]; exact hlc, fun k hk => ?_⟩
      obtain ⟨cs2, h1, h2⟩ := hL k hk
      refine ⟨cs2, fun j u hu => ?_, h2⟩
      have := h1 j u hu
      rw [Addr.add_lit, Addr.add_lit] at this
      exact this
theorem vcell_len {t : VT} {cs : List Value} (h : VCell w t cs) : cs.length = 6 := by
  cases t
  rw [vcell_mk] at h
  obtain ⟨lv, kv, rfl, _⟩ := h
  rfl
theorem value_of {tV tL tK : TypeId} (hT : VTypes P tV tL tK) : ∀ (n : Nat) (cs : List Value) (x : DataW H × List MemPlace), DataW.trod enc P w 0 (fun _ => true) true n tV cs = some x → ∃ t : VT, VCell w t cs ∧ t.wf := by
  obtain ⟨⟨fs, he, f0, f1, f2, f3, f4, f5⟩, ⟨cV, c3, c4, c9, cL, cK⟩, u3, u4, u9, uL, uK⟩ := hT
  intro n
  induction n using Nat.strongRecOn with
  | _ n ih =>
    intro cs x hx
    obtain ⟨xs, m, rfl, _, hlen, hxl, hf⟩ := DataW.trod_struct he hx
    rw [cV] at hlen
    obtain ⟨a, b, c, d, e, f, rfl⟩ := six_of hlen
    obtain ⟨x0, g0⟩ := field_atV hxl hf f0 c3
    obtain ⟨x1, g1⟩ := field_atV hxl hf f1 c4
    obtain ⟨x2, g2⟩ := field_atV hxl hf f2 c3
    obtain ⟨x3, g3⟩ := field_atV hxl hf f3 c9
    obtain ⟨x4, g4⟩ := field_atV hxl hf f4 cL
    obtain ⟨x5, g5⟩ := field_atV hxl hf f5 cK
    obtain ⟨k, e0, _, w0⟩ := DataW.trod_int u3 g0
    obtain ⟨bv, e1, _⟩ := DataW.trod_bool u4 g1
    obtain ⟨i, e2, _, w2⟩ := DataW.trod_int u3 g2
    obtain ⟨s, e3, _, w3⟩ := DataW.trod_string u9 g3
    obtain ⟨kv, ks, e5, hks, hkz, hkl⟩ := open_strsV uK u9 c9 g5
    obtain ⟨L, hLl, hL⟩ := row_of (R := fun cs (t : VT) => VCell w t cs ∧ t.wf) cV uL (by decide) (fun cs t h => vcell_len h.1) (fun m' cs y hm hy => ih m' (by omega) cs y hy) (show DataW.trod enc P w 0 (fun _ => true) true m tL [e] = some x4 from g4)
    simp at e0 e1 e2 e3 e5
    subst e0 e1 e2 e3 e5
    have hwl : ∀ t ∈ L, t.wf := fun t ht => by
      obtain ⟨j, hj, rfl⟩ := List.getElem_of_mem ht
      rcases hL with ⟨_, _, _, rfl⟩ | ⟨_, _, _, _, _, _, hr⟩
      · cases hj
      · obtain ⟨_, _, h⟩ := hr j hj
        exact h.2
    refine ⟨.mk k bv i s L ks, vcell_mk.2 ⟨e, f, rfl, hks, ?_⟩, ?_⟩
    · rcases hL with h | ⟨bl, off, cap, h1, h2, h3, h4⟩
      · exact .inl h
      · exact .inr ⟨bl, off, cap, h1, h2, h3, VRow.make fun j hj => by
          obtain ⟨cs, q1, q2, _⟩ := h4 j hj
          exact ⟨cs, q1, q2⟩⟩
    · rw [VT.wf, wfL_iff]
      exact ⟨wf_int w0, wf_int w2, w3, hLl, hkl, hkz, hwl⟩
end
end Go.Proofs.YtomecnncighkgaaGreatDoor
/- Decimal digits: what they read as; no program in sight. -/
namespace Go.Proofs.YtomecnncighkgaaGreatDoor

def isDg (b : UInt8) : Bool := decide (48 ≤ b.toNat) && decide (b.toNat ≤ 57)
def numD (l : List UInt8) : Nat := l.foldl (fun n b => 10 * n + (b.toNat - 48)) 0
theorem dg_toNat (m : Nat) (hm : m < 10) : (UInt8.ofNat (48 + m)).toNat = 48 + m := by
  rw [UInt8.toNat_ofNat']; omega
theorem dec_stp {v : Nat} (h : ¬ v < 10) : Lib.decDigits v = Lib.decDigits (v / 10) ++ [UInt8.ofNat (48 + v % 10)] := by rw [Lib.decDigits, dif_neg h]
theorem dec_digs (v : Nat) : ∀ b ∈ Lib.decDigits v, isDg b = true := by
  induction v using Nat.strongRecOn with
  | _ v ih =>
    intro b hb
    by_cases h : v < 10
    · rw [Lib.decDigits_one h] at hb
      rw [List.mem_singleton.1 hb]
      unfold isDg
      rw [dg_toNat v h]
      simp; omega
    · rw [dec_stp h] at hb
      rcases List.mem_append.1 hb with hb | hb
      · exact ih (v / 10) (by omega) b hb
      · rw [List.mem_singleton.1 hb]
        unfold isDg
        rw [dg_toNat _ (Nat.mod_lt _ (by decide))]
        simp; omega
theorem dec_some (v : Nat) : Lib.decDigits v ≠ [] := by
  by_cases h : v < 10
  · rw [Lib.decDigits_one h]; simp
  · rw [dec_stp h]; simp
theorem numD_dec (v : Nat) : numD (Lib.decDigits v) = v := by
  induction v using Nat.strongRecOn with
  | _ v ih =>
    by_cases h : v < 10
    · rw [Lib.decDigits_one h]
      show 10 * 0 + ((UInt8.ofNat (48 + v)).toNat - 48) = v
      rw [dg_toNat v h]; omega
    · rw [dec_stp h]
      unfold numD at ih ⊢
      rw [List.foldl_append, ih (v / 10) (by omega)]
      show 10 * (v / 10) + ((UInt8.ofNat (48 + v % 10)).toNat - 48) = v
      rw [dg_toNat _ (Nat.mod_lt _ (by decide))]; omega
theorem dec_inj {a b : Nat} (h : Lib.decDigits a = Lib.decDigits b) : a = b := by rw [← numD_dec a, h, numD_dec]
theorem isDg_rng {b : UInt8} (h : isDg b = true) : 48 ≤ b.toNat ∧ b.toNat ≤ 57 := by unfold isDg at h; simpa using h
/-- digits that end where no digit stands -/
theorem digs_cut : ∀ {l m r r' : List UInt8}, (∀ b ∈ l, isDg b = true) → (∀ b ∈ m, isDg b = true) → (∀ b, r.head? = some b → isDg b = false) → (∀ b, r'.head? = some b → isDg b = false) → l ++ r = m ++ r' → l = m ∧ r = r'
  | [], [], _, _, _, _, _, _, h => ⟨rfl, h⟩
  | [], b :: m, r, r', _, hm, hr, _, h => by
    have h1 := hr b (by rw [show r = b :: (m ++ r') from h]; rfl)
    rw [hm b (List.mem_cons_self ..)] at h1; cases h1
  | b :: l, [], r, r', hl, _, _, hr', h => by
    have h1 := hr' b (by rw [show r' = b :: (l ++ r) from h.symm]; rfl)
    rw [hl b (List.mem_cons_self ..)] at h1; cases h1
  | b :: l, c :: m, r, r', hl, hm, hr, hr', h => by
    rw [List.cons_append, List.cons_append] at h
    injection h with h1 h2
    obtain ⟨h3, h4⟩ := digs_cut (fun x hx => hl x (List.mem_cons_of_mem _ hx)) (fun x hx => hm x (List.mem_cons_of_mem _ hx)) hr hr' h2
    exact ⟨by rw [h1, h3], h4⟩
/-- numbers in decimal that end where no digit stands -/
theorem itoa_cut {a b : Int} {r r' : List UInt8} (hr : ∀ c, r.head? = some c → isDg c = false) (hr' : ∀ c, r'.head? = some c → isDg c = false) (h : Lib.itoa a ++ r = Lib.itoa b ++ r') : a = b ∧ r = r' := by
  have neg : ∀ (x y : Nat) (r r' : List UInt8), 1 ≤ x → Lib.itoa (-(x : Int)) ++ r = Lib.itoa (y : Int) ++ r' → False := fun x y r r' hx h => by
    rw [Lib.itoa_neg x hx, Lib.itoa_nonneg] at h
    have hm := dec_digs y
    cases hd : Lib.decDigits y with
    | nil => exact dec_some y hd
    | cons c l =>
      rw [hd] at h hm
      injection h with h1 h2
      have := hm c (List.mem_cons_self ..)
      rw [← h1] at this
      revert this; decide
  by_cases ha : a < 0
  · obtain ⟨x, rfl, hx⟩ : ∃ x : Nat, a = -(x : Int) ∧ 1 ≤ x := ⟨a.natAbs, by omega, by omega⟩
    by_cases hb : b < 0
    · obtain ⟨y, rfl, hy⟩ : ∃ y : Nat, b = -(y : Int) ∧ 1 ≤ y := ⟨b.natAbs, by omega, by omega⟩
      rw [Lib.itoa_neg x hx, Lib.itoa_neg y hy, List.cons_append, List.cons_append] at h
      injection h with _ h
      obtain ⟨h1, h2⟩ := digs_cut (dec_digs x) (dec_digs y) hr hr' h
      rw [dec_inj h1]; exact ⟨rfl, h2⟩
    · obtain ⟨y, rfl⟩ : ∃ y : Nat, b = (y : Int) := ⟨b.toNat, by omega⟩
      exact (neg x y r r' hx h).elim
  · obtain ⟨x, rfl⟩ : ∃ x : Nat, a = (x : Int) := ⟨a.toNat, by omega⟩
    by_cases hb : b < 0
    · obtain ⟨y, rfl, hy⟩ : ∃ y : Nat, b = -(y : Int) ∧ 1 ≤ y := ⟨b.natAbs, by omega, by omega⟩
      exact (neg y x r' r hy h.symm).elim
    · obtain ⟨y, rfl⟩ : ∃ y : Nat, b = (y : Int) := ⟨b.toNat, by omega⟩
      rw [Lib.itoa_nonneg, Lib.itoa_nonneg] at h
      obtain ⟨h1, h2⟩ := digs_cut (dec_digs x) (dec_digs y) hr hr' h
      rw [dec_inj h1]; exact ⟨rfl, h2⟩
theorem itoa_head (n : Int) : ∃ c l, Lib.itoa n = c :: l ∧ (c = 45 ∨ isDg c = true) := by
  by_cases h : n < 0
  · obtain ⟨x, rfl, hx⟩ : ∃ x : Nat, n = -(x : Int) ∧ 1 ≤ x := ⟨n.natAbs, by omega, by omega⟩
    exact ⟨45, _, Lib.itoa_neg x hx, .inl rfl⟩
  · obtain ⟨x, rfl⟩ : ∃ x : Nat, n = (x : Int) := ⟨n.toNat, by omega⟩
    rw [Lib.itoa_nonneg]
    have hm := dec_digs x
    cases hd : Lib.decDigits x with
    | nil => exact absurd hd (dec_some x)
    | cons c l => rw [hd] at hm; exact ⟨c, l, rfl, .inr (hm c (List.mem_cons_self ..))⟩
end Go.Proofs.YtomecnncighkgaaGreatDoor
/- The literals of values: different valid values have different literals; no program in sight. -/
namespace Go.Proofs.YtomecnncighkgaaGreatDoor

def hexF (n : Nat) : UInt8 := if n < 10 then UInt8.ofNat (48 + n) else UInt8.ofNat (87 + n)
/-- the characters of a byte in a string's literal -/
def chF (c : UInt8) : List UInt8 :=
  if c = 34 ∨ c = 92 then [92, c] else if c = 10 then [92, 110] else if c = 9 then [92, 116] else if 32 ≤ c.toNat ∧ c.toNat ≤ 126 then [c] else [92, 120, hexF (c.toNat / 16), hexF (c.toNat % 16)]
def quoteF (s : List UInt8) : List UInt8 := 34 :: (s.flatMap chF ++ [34])
/-- texts with a comma and a space between them -/
def joinT : List (List UInt8) → List UInt8
  | [] => []
  | [x] => x
  | x :: y :: l => x ++ 44 :: 32 :: joinT (y :: l)
def itemF (k : ByteArray) (l : List UInt8) : List UInt8 := quoteF k.data.toList ++ 58 :: 32 :: l
mutual
def litF : VT → List UInt8
  | .mk k b n s L ks =>
    if k = 1 then (if b then [116, 114, 117, 101] else [102, 97, 108, 115, 101]) else
    if k = 2 then Lib.itoa n else
    if k = 3 then quoteF s.data.toList else
    if k = 4 then 91 :: (joinT (litL L) ++ [93]) else
    if k = 5 then 123 :: (joinT (List.zipWith itemF ks (litL L)) ++ [125]) else [110, 117, 108, 108]
def litL : List VT → List (List UInt8)
  | [] => []
  | t :: L => litF t :: litL L
end
theorem litL_map : ∀ L, litL L = L.map litF
  | [] => rfl
  | t :: L => by rw [litL, litL_map L]; rfl
theorem litF_eqn (t : VT) : litF t = if t.kind = 1 then (if t.bool then [116, 114, 117, 101] else [102, 97, 108, 115, 101]) else
    if t.kind = 2 then Lib.itoa t.int else
    if t.kind = 3 then quoteF t.str.data.toList else
    if t.kind = 4 then 91 :: (joinT (t.list.map litF) ++ [93]) else
    if t.kind = 5 then 123 :: (joinT (List.zipWith itemF t.keys (t.list.map litF)) ++ [125]) else [110, 117, 108, 108] := by
  cases t
  rw [litF, litL_map]
  rfl

/-! ### reading a string's literal -/
def unhex (c : UInt8) : Nat := if c.toNat < 58 then c.toNat - 48 else c.toNat - 87
def deCh : List UInt8 → UInt8 × List UInt8
  | [] => (0, [])
  | c :: X => if c = 92 then (match X with
    | [] => (0, [])
    | d :: X => if d = 120 then (match X with
      | h :: l :: X => (UInt8.ofNat (16 * unhex h + unhex l), X)
      | _ => (0, [])) else if d = 110 then (10, X) else if d = 116 then (9, X) else (d, X)) else (c, X)
theorem hex_back : ∀ c : UInt8, UInt8.ofNat (16 * unhex (hexF (c.toNat / 16)) + unhex (hexF (c.toNat % 16))) = c := by
  have h : ∀ k : Fin 256, UInt8.ofNat (16 * unhex (hexF ((UInt8.ofNat k.val).toNat / 16)) + unhex (hexF ((UInt8.ofNat k.val).toNat % 16))) = UInt8.ofNat k.val := by decide +kernel
  intro c
  have := h ⟨c.toNat, c.toNat_lt⟩
  rwa [UInt8.ofNat_toNat] at this
theorem deCh_ch (c : UInt8) (X : List UInt8) : deCh (chF c ++ X) = (c, X) := by
  unfold chF
  by_cases h1 : c = 34 ∨ c = 92
  · rw [if_pos h1]
    rcases h1 with rfl | rfl <;> rfl
  · rw [if_neg h1]
    by_cases h2 : c = 10
    · rw [if_pos h2, h2]; rfl
    · rw [if_neg h2]
      by_cases h3 : c = 9
      · rw [if_pos h3, h3]; rfl
      · rw [if_neg h3]
        by_cases h4 : 32 ≤ c.toNat ∧ c.toNat ≤ 126
        · rw [if_pos h4]
          show (if c = 92 then _ else (c, X)) = _
          rw [if_neg (fun e => h1 (.inr e))]
        · rw [if_neg h4]
          show (UInt8.ofNat (16 * unhex (hexF (c.toNat / 16)) + unhex (hexF (c.toNat % 16))), X) = _
          rw [hex_back]
theorem chF_head (c : UInt8) : ∃ d l, chF c = d :: l ∧ d ≠ 34 := by
  unfold chF
  by_cases h1 : c = 34 ∨ c = 92
  · rw [if_pos h1]; exact ⟨92, _, rfl, by decide⟩
  · rw [if_neg h1]
    by_cases h2 : c = 10
    · rw [if_pos h2]; exact ⟨92, _, rfl, by decide⟩
    · rw [if_neg h2]
      by_cases h3 : c = 9
      · rw [if_pos h3]; exact ⟨92, _, rfl, by decide⟩
      · rw [if_neg h3]
        by_cases h4 : 32 ≤ c.toNat ∧ c.toNat ≤ 126
        · rw [if_pos h4]; exact ⟨c, _, rfl, fun e => h1 (.inl e)⟩
        · rw [if_neg h4]; exact ⟨92, _, rfl, by decide⟩
theorem chars_cut : ∀ {s t r r' : List UInt8}, s.flatMap chF ++ 34 :: r = t.flatMap chF ++ 34 :: r' → s = t ∧ r = r'
  | [], [], _, _, h => by
    injection h with _ h
    exact ⟨rfl, h⟩
  | [], c :: t, r, r', h => by
    obtain ⟨d, l, e, hd⟩ := chF_head c
    rw [List.flatMap_cons, e] at h
    injection h with h1 _
    exact absurd h1.symm hd
  | c :: s, [], r, r', h => by
    obtain ⟨d, l, e, hd⟩ := chF_head c
    rw [List.flatMap_cons, e] at h
    injection h with h1 _
    exact absurd h1 hd
  | c :: s, d :: t, r, r', h => by
    rw [List.flatMap_cons, List.flatMap_cons, List.append_assoc, List.append_assoc] at h
    have h2 := congrArg deCh h
    rw [deCh_ch, deCh_ch] at h2
    injection h2 with h3 h4
    obtain ⟨h5, h6⟩ := chars_cut h4
    exact ⟨by rw [h3, h5], h6⟩
theorem quote_cut {s t r r' : List UInt8} (h : quoteF s ++ r = quoteF t ++ r') : s = t ∧ r = r' := by
  unfold quoteF at h
  simp only [List.cons_append, List.append_assoc, List.nil_append] at h
  injection h with _ h
  exact chars_cut h

/-! ### literals end where a comma or a bracket stands -/
def Stop (r : List UInt8) : Prop := ∀ c, r.head? = some c → c = 44 ∨ c = 93 ∨ c = 125
theorem Stop.dig {r : List UInt8} (h : Stop r) : ∀ c, r.head? = some c → isDg c = false := fun c hc => by
  rcases h c hc with rfl | rfl | rfl <;> decide
theorem stop_cons {c : UInt8} (l : List UInt8) (h : c = 44 ∨ c = 93 ∨ c = 125) : Stop (c :: l) := fun d hd => by
  injection hd with hd; rw [← hd]; exact h
theorem join_cons (x : List UInt8) (L : List (List UInt8)) (h : L ≠ []) : joinT (x :: L) = x ++ 44 :: 32 :: joinT L := by
  cases L with
  | nil => exact absurd rfl h
  | cons y L => rfl
theorem join_cut {α : Type} {f : α → List UInt8} {e : UInt8} {P Q : α → Prop} (he : e = 93 ∨ e = 125) (hinj : ∀ x y r r', P x → Q y → Stop r → Stop r' → f x ++ r = f y ++ r' → x = y ∧ r = r') (hne : ∀ x, ∃ c l, f x = c :: l ∧ c ≠ e) :
    ∀ (L M : List α) (r r' : List UInt8), (∀ x ∈ L, P x) → (∀ y ∈ M, Q y) → joinT (L.map f) ++ e :: r = joinT (M.map f) ++ e :: r' → L = M ∧ r = r'
  | [], [], r, r', _, _, h => by
    injection h with _ h
    exact ⟨rfl, h⟩
  | [], y :: M, r, r', _, hM, h => by
    obtain ⟨c, l, e1, hc⟩ := hne y
    exfalso
    have hj : ∃ l2, joinT ((y :: M).map f) = c :: l2 := by
      rw [List.map_cons]
      cases M with
      | nil => exact ⟨l, e1⟩
      | cons z M => rw [join_cons _ _ (by simp), e1]; exact ⟨_, rfl⟩
    obtain ⟨l2, hl2⟩ := hj
    rw [hl2] at h
    injection h with h1 _
    exact hc h1.symm
  | x :: L, [], r, r', hL, _, h => by
    obtain ⟨c, l, e1, hc⟩ := hne x
    exfalso
    have hj : ∃ l2, joinT ((x :: L).map f) = c :: l2 := by
      rw [List.map_cons]
      cases L with
      | nil => exact ⟨l, e1⟩
      | cons z L => rw [join_cons _ _ (by simp), e1]; exact ⟨_, rfl⟩
    obtain ⟨l2, hl2⟩ := hj
    rw [hl2] at h
    injection h with h1 _
    exact hc h1
  | x :: L, y :: M, r, r', hL, hM, h => by
    have px := hL x (List.mem_cons_self ..)
    have py := hM y (List.mem_cons_self ..)
    have hes : e = 44 ∨ e = 93 ∨ e = 125 := .inr he
    have hne44 : e ≠ 44 := by rcases he with rfl | rfl <;> decide
    have tail : ∀ (z : α) (K : List α) (q : List UInt8), ∃ t, joinT ((z :: K).map f) ++ e :: q = f z ++ t ∧ Stop t ∧ ((K = [] ∧ t = e :: q) ∨ (K ≠ [] ∧ t = 44 :: 32 :: (joinT (K.map f) ++ e :: q))) := fun z K q => by
      rw [List.map_cons]
      cases K with
      | nil => exact ⟨e :: q, rfl, stop_cons _ hes, .inl ⟨rfl, rfl⟩⟩
      | cons k K =>
        refine ⟨44 :: 32 :: (joinT ((k :: K).map f) ++ e :: q), ?_, stop_cons _ (.inl rfl), .inr ⟨by simp, rfl⟩⟩
        rw [join_cons _ _ (by simp)]
        simp
    obtain ⟨t1, e1, s1, c1⟩ := tail x L r
    obtain ⟨t2, e2, s2, c2⟩ := tail y M r'
    rw [e1, e2] at h
    obtain ⟨hxy, ht⟩ := hinj x y t1 t2 px py s1 s2 h
    rcases c1 with ⟨rfl, rfl⟩ | ⟨hL0, rfl⟩
    · rcases c2 with ⟨rfl, rfl⟩ | ⟨hM0, rfl⟩
      · injection ht with _ ht
        exact ⟨by rw [hxy], ht⟩
      · injection ht with h1 _
        exact absurd h1 hne44
    · rcases c2 with ⟨rfl, rfl⟩ | ⟨hM0, rfl⟩
      · injection ht with h1 _
        exact absurd h1.symm hne44
      · injection ht with _ ht
        injection ht with _ ht
        obtain ⟨h1, h2⟩ := join_cut he hinj hne L M r r' (fun z hz => hL z (List.mem_cons_of_mem _ hz)) (fun z hz => hM z (List.mem_cons_of_mem _ hz)) ht
        exact ⟨by rw [hxy, h1], h2⟩

/-- the first character of a literal -/
theorem lit_head (t : VT) : ∃ c l, litF t = c :: l ∧ ((t.kind = 1 ∧ (c = 116 ∧ t.bool = true ∨ c = 102 ∧ t.bool = false)) ∨ (t.kind = 2 ∧ (c = 45 ∨ isDg c = true)) ∨ (t.kind = 3 ∧ c = 34) ∨ (t.kind = 4 ∧ c = 91) ∨ (t.kind = 5 ∧ c = 123) ∨ (t.kind ≠ 1 ∧ t.kind ≠ 2 ∧ t.kind ≠ 3 ∧ t.kind ≠ 4 ∧ t.kind ≠ 5 ∧ c = 110)) := by
  rw [litF_eqn]
  by_cases h1 : t.kind = 1
  · rw [if_pos h1]
    cases hb : t.bool with
    | true => exact ⟨116, _, rfl, .inl ⟨h1, .inl ⟨rfl, rfl⟩⟩⟩
    | false => exact ⟨102, _, rfl, .inl ⟨h1, .inr ⟨rfl, rfl⟩⟩⟩
  · rw [if_neg h1]
    by_cases h2 : t.kind = 2
    · rw [if_pos h2]
      obtain ⟨c, l, e, h⟩ := itoa_head t.int
      exact ⟨c, l, e, .inr (.inl ⟨h2, h⟩)⟩
    · rw [if_neg h2]
      by_cases h3 : t.kind = 3
      · rw [if_pos h3]; exact ⟨34, _, rfl, .inr (.inr (.inl ⟨h3, rfl⟩))⟩
      · rw [if_neg h3]
        by_cases h4 : t.kind = 4
        · rw [if_pos h4]; exact ⟨91, _, rfl, .inr (.inr (.inr (.inl ⟨h4, rfl⟩)))⟩
        · rw [if_neg h4]
          by_cases h5 : t.kind = 5
          · rw [if_pos h5]; exact ⟨123, _, rfl, .inr (.inr (.inr (.inr (.inl ⟨h5, rfl⟩))))⟩
          · rw [if_neg h5]; exact ⟨110, _, rfl, .inr (.inr (.inr (.inr (.inr ⟨h1, h2, h3, h4, h5, rfl⟩))))⟩
theorem head_kind {a b : VT} (ha : 0 ≤ a.kind ∧ a.kind ≤ 5) (hb : 0 ≤ b.kind ∧ b.kind ≤ 5) {r r' : List UInt8} (h : litF a ++ r = litF b ++ r') : a.kind = b.kind ∧ (a.kind = 1 → a.bool = b.bool) := by
  obtain ⟨c, l, e, hc⟩ := lit_head a
  obtain ⟨d, m, e', hd⟩ := lit_head b
  rw [e, e'] at h
  injection h with h _
  subst h
  have dg : isDg c = true → c ≠ 116 ∧ c ≠ 102 ∧ c ≠ 34 ∧ c ≠ 91 ∧ c ≠ 123 ∧ c ≠ 110 := fun h => by
    have := isDg_rng h
    refine ⟨?_, ?_, ?_, ?_, ?_, ?_⟩ <;> (rintro rfl; revert this; decide)
  have n45 : c = 45 → c ≠ 116 ∧ c ≠ 102 ∧ c ≠ 34 ∧ c ≠ 91 ∧ c ≠ 123 ∧ c ≠ 110 := fun h => by subst h; decide
  have cls : (a.kind = 2 ∧ (c = 45 ∨ isDg c = true)) → c ≠ 116 ∧ c ≠ 102 ∧ c ≠ 34 ∧ c ≠ 91 ∧ c ≠ 123 ∧ c ≠ 110 := fun h => h.2.elim n45 dg
  have cls' : (b.kind = 2 ∧ (c = 45 ∨ isDg c = true)) → c ≠ 116 ∧ c ≠ 102 ∧ c ≠ 34 ∧ c ≠ 91 ∧ c ≠ 123 ∧ c ≠ 110 := fun h => h.2.elim n45 dg
  rcases hc with ⟨h1, (⟨rfl, hb1⟩ | ⟨rfl, hb1⟩)⟩ | h2 | ⟨h3, rfl⟩ | ⟨h4, rfl⟩ | ⟨h5, rfl⟩ | ⟨n1, n2, n3, n4, n5, rfl⟩ <;>
  rcases hd with ⟨g1, (⟨gc, hb2⟩ | ⟨gc, hb2⟩)⟩ | g2 | ⟨g3, gc⟩ | ⟨g4, gc⟩ | ⟨g5, gc⟩ | ⟨m1, m2, m3, m4, m5, gc⟩ <;>
  first
    | (exfalso; revert gc; decide)
    | exact ⟨by omega, fun _ => by rw [hb1, hb2]⟩
    | exact absurd rfl (cls' g2).1
    | exact absurd rfl (cls' g2).2.1
    | exact absurd rfl (cls' g2).2.2.1
    | exact absurd rfl (cls' g2).2.2.2.1
    | exact absurd rfl (cls' g2).2.2.2.2.1
    | exact absurd rfl (cls' g2).2.2.2.2.2
    | exact absurd gc (cls h2).1
    | exact absurd gc (cls h2).2.1
    | exact absurd gc (cls h2).2.2.1
    | exact absurd gc (cls h2).2.2.2.1
    | exact absurd gc (cls h2).2.2.2.2.1
    | exact absurd gc (cls h2).2.2.2.2.2
    | exact ⟨by omega, fun h => by omega⟩

theorem lit_not (t : VT) (e : UInt8) (he : e = 93 ∨ e = 125) : ∃ c l, litF t = c :: l ∧ c ≠ e := by
  obtain ⟨c, l, h, hc⟩ := lit_head t
  refine ⟨c, l, h, ?_⟩
  rintro rfl
  have dg : isDg c = true → False := fun h => by
    have := isDg_rng h
    rcases he with rfl | rfl <;> (revert this; decide)
  have n1 : c ≠ 116 ∧ c ≠ 102 ∧ c ≠ 45 ∧ c ≠ 34 ∧ c ≠ 91 ∧ c ≠ 123 ∧ c ≠ 110 := by rcases he with rfl | rfl <;> decide
  rcases hc with ⟨_, (⟨h, _⟩ | ⟨h, _⟩)⟩ | ⟨_, (h | h)⟩ | ⟨_, h⟩ | ⟨_, h⟩ | ⟨_, h⟩ | ⟨_, _, _, _, _, h⟩
  · exact n1.1 h
  · exact n1.2.1 h
  · exact n1.2.2.1 h
  · exact dg h
  · exact n1.2.2.2.1 h
  · exact n1.2.2.2.2.1 h
  · exact n1.2.2.2.2.2.1 h
  · exact n1.2.2.2.2.2.2 h
theorem zip_items : ∀ (ks : List ByteArray) (L : List VT), List.zipWith itemF ks (L.map litF) = (ks.zip L).map fun x => itemF x.1 (litF x.2)
  | [], _ => by simp
  | _ :: _, [] => by simp
  | k :: ks, t :: L => by
    rw [List.map_cons, List.zipWith_cons_cons, List.zip_cons_cons, List.map_cons, zip_items ks L]
theorem zip_inj {α β : Type} : ∀ {a a' : List α} {b b' : List β}, a.length = b.length → a'.length = b'.length → a.zip b = a'.zip b' → a = a' ∧ b = b'
  | [], [], [], [], _, _, _ => ⟨rfl, rfl⟩
  | [], _ :: _, [], _ :: _, _, _, h => by simp at h
  | _ :: _, [], _ :: _, [], _, _, h => by simp at h
  | x :: a, x' :: a', y :: b, y' :: b', h1, h2, h => by
    rw [List.zip_cons_cons, List.zip_cons_cons] at h
    injection h with h3 h4
    injection h3 with h3 h5
    obtain ⟨h6, h7⟩ := zip_inj (by simpa using h1) (by simpa using h2) h4
    exact ⟨by rw [h3, h6], by rw [h5, h7]⟩
theorem keyed_len {t : VT} (h : keyedF t = true) : t.keys.length = t.list.length := by
  unfold keyedF at h
  rw [Bool.and_eq_true] at h
  exact of_decide_eq_true h.1

theorem lit_cut : ∀ (n : Nat) (la lb : Nat) (a b : VT) (r r' : List UInt8), a.depth ≤ n → checkF la a = 0 → checkF lb b = 0 → Stop r → Stop r' → litF a ++ r = litF b ++ r' → a = b ∧ r = r'
  | 0, _, _, a, _, _, _, hd, _, _, _, _, _ => by have := depth_pos a; omega
  | n + 1, la, lb, a, b, r, r', hd, ha, hb, hr, hr', h => by
    obtain ⟨na, ca⟩ := check_zero ha
    obtain ⟨nb, cb⟩ := check_zero hb
    obtain ⟨_, ka0, ka5, pa, _, _, _, _, _, ya⟩ := node_zero na
    obtain ⟨_, kb0, kb5, pb, _, _, _, _, _, yb⟩ := node_zero nb
    obtain ⟨hk, hbool⟩ := head_kind ⟨ka0, ka5⟩ ⟨kb0, kb5⟩ h
    obtain ⟨pa1, pa2, pa3, pa4, pa5⟩ := plain_parts pa
    obtain ⟨pb1, pb2, pb3, pb4, pb5⟩ := plain_parts pb
    rw [← hk] at pb1 pb2 pb3 pb4 pb5 yb
    have B : a.kind ≠ 1 → a.bool = b.bool := fun k => by rw [pa1 k, pb1 k]
    have I : a.kind ≠ 2 → a.int = b.int := fun k => by rw [pa2 k, pb2 k]
    have S : a.kind ≠ 3 → a.str = b.str := fun k => bytes_ext (by rw [pa3 k, pb3 k])
    have L : a.kind ≠ 4 → a.kind ≠ 5 → a.list = b.list := fun k k2 => by rw [pa4 k k2, pb4 k k2]
    have K : a.kind ≠ 5 → a.keys = b.keys := fun k => by rw [pa5 k, pb5 k]
    have PX : ∀ x ∈ a.list, x.depth ≤ n ∧ checkF (la + 1) x = 0 := fun x hx => ⟨by have := depthL_mem hx; have := depth_list a; omega, ca x hx⟩
    rw [litF_eqn a, litF_eqn b, ← hk] at h
    by_cases k1 : a.kind = 1
    · rw [if_pos k1, if_pos k1, hbool k1] at h
      exact ⟨vt_ext hk (hbool k1) (I (by omega)) (S (by omega)) (L (by omega) (by omega)) (K (by omega)), List.append_cancel_left h⟩
    rw [if_neg k1, if_neg k1] at h
    by_cases k2 : a.kind = 2
    · rw [if_pos k2, if_pos k2] at h
      obtain ⟨h1, h2⟩ := itoa_cut hr.dig hr'.dig h
      exact ⟨vt_ext hk (B k1) h1 (S (by omega)) (L (by omega) (by omega)) (K (by omega)), h2⟩
    rw [if_neg k2, if_neg k2] at h
    by_cases k3 : a.kind = 3
    · rw [if_pos k3, if_pos k3] at h
      obtain ⟨h1, h2⟩ := quote_cut h
      exact ⟨vt_ext hk (B k1) (I k2) (bytes_ext h1) (L (by omega) (by omega)) (K (by omega)), h2⟩
    rw [if_neg k3, if_neg k3] at h
    have inj : ∀ (x y : VT) (q q' : List UInt8), (x.depth ≤ n ∧ checkF (la + 1) x = 0) → checkF (lb + 1) y = 0 → Stop q → Stop q' → litF x ++ q = litF y ++ q' → x = y ∧ q = q' := fun x y q q' hx hy hq hq' h =>
      lit_cut n (la + 1) (lb + 1) x y q q' hx.1 hx.2 hy hq hq' h
    by_cases k4 : a.kind = 4
    · rw [if_pos k4, if_pos k4] at h
      simp only [List.cons_append, List.append_assoc, List.nil_append] at h
      injection h with _ h
      obtain ⟨h1, h2⟩ := join_cut (.inl rfl) inj (fun x => lit_not x 93 (.inl rfl)) a.list b.list r r' PX cb h
      exact ⟨vt_ext hk (B k1) (I k2) (S k3) h1 (K (by omega)), h2⟩
    rw [if_neg k4, if_neg k4] at h
    by_cases k5 : a.kind = 5
    · rw [if_pos k5, if_pos k5, zip_items, zip_items] at h
      simp only [List.cons_append, List.append_assoc, List.nil_append] at h
      injection h with _ h
      have inj2 : ∀ (x y : ByteArray × VT) (q q' : List UInt8), (x.2.depth ≤ n ∧ checkF (la + 1) x.2 = 0) → checkF (lb + 1) y.2 = 0 → Stop q → Stop q' → itemF x.1 (litF x.2) ++ q = itemF y.1 (litF y.2) ++ q' → x = y ∧ q = q' := fun x y q q' hx hy hq hq' h => by
        unfold itemF at h
        rw [List.append_assoc, List.append_assoc] at h
        obtain ⟨h1, h2⟩ := quote_cut h
        simp only [List.cons_append] at h2
        injection h2 with _ h2
        injection h2 with _ h2
        obtain ⟨h3, h4⟩ := inj x.2 y.2 q q' hx hy hq hq' h2
        exact ⟨Prod.ext (bytes_ext h1) h3, h4⟩
      obtain ⟨h1, h2⟩ := join_cut (f := fun x : ByteArray × VT => itemF x.1 (litF x.2)) (.inr rfl) inj2 (fun x => ⟨34, _, rfl, by decide⟩) (a.keys.zip a.list) (b.keys.zip b.list) r r' (fun x hx => PX x.2 (List.of_mem_zip hx).2) (fun y hy => cb y.2 (List.of_mem_zip hy).2) h
      obtain ⟨h3, h4⟩ := zip_inj (keyed_len (ya k5)) (keyed_len (yb k5)) h1
      exact ⟨vt_ext hk (B k1) (I k2) (S k3) h4 h3, h2⟩
    rw [if_neg k5, if_neg k5] at h
    exact ⟨vt_ext hk (B k1) (I k2) (S k3) (L k4 k5) (K k5), List.append_cancel_left h⟩
/-- different valid values have different literals -/
theorem lit_inj {a b : VT} (ha : validF a = 0) (hb : validF b = 0) : litF a = litF b ↔ a = b := by
  constructor
  · intro h
    exact (lit_cut _ 1 1 a b [] [] (Nat.le_refl _) ha hb (fun _ h => by cases h) (fun _ h => by cases h) (by rw [List.append_nil, List.append_nil]; exact h)).1
  · rintro rfl; rfl
theorem lit_some (t : VT) : litF t ≠ [] := by
  obtain ⟨c, l, e, _⟩ := lit_head t
  rw [e]; simp
end Go.Proofs.YtomecnncighkgaaGreatDoor
/- Nested lists; the number of levels, node by node; entries and texts of values; no program in sight. -/
namespace Go.Proofs.YtomecnncighkgaaGreatDoor

/-- a number, or an empty list, in some lists -/
def nestT : Nat → Bool → VT
  | 0, e => if e then .mk 4 false 0 ⟨#[]⟩ [] [] else .mk 2 false 7 ⟨#[]⟩ [] []
  | n + 1, e => .mk 4 false 0 ⟨#[]⟩ [nestT n e] []
theorem nest_check (e : Bool) : ∀ (n lv : Nat), checkF lv (nestT n e) = if lv + n ≤ (if e then 15 else 16) then 0 else 13
  | 0, lv => by
    have hz : (⟨#[]⟩ : ByteArray).size = 0 := rfl
    rw [checkF_eqn]
    cases e with
    | true =>
      have hl : (nestT 0 true).list = [] := rfl
      rw [hl, checkL]
      unfold nodeF
      simp only [nestT, VT.kind, VT.int, VT.str, VT.list, VT.keys, if_true]
      by_cases h : 16 < lv
      · rw [if_pos h, if_pos (by decide), if_neg (by omega)]
      · by_cases h2 : lv = 16
        · subst h2; decide
        · have hp : plainF (VT.mk 4 false 0 ⟨#[]⟩ [] []) = true := by decide
          rw [if_neg h, hp, if_pos (show lv + 0 ≤ 15 by omega)]
          simp [h2, hz]
    | false =>
      have hl : (nestT 0 false).list = [] := rfl
      rw [hl, checkL]
      unfold nodeF
      simp only [nestT, VT.kind, VT.int, VT.str, VT.list, VT.keys, if_false, Bool.false_eq_true]
      by_cases h : 16 < lv
      · rw [if_pos h, if_pos (by decide), if_neg (by omega)]
      · have hp : plainF (VT.mk 2 false 7 ⟨#[]⟩ [] []) = true := by decide
        rw [if_neg h, hp, if_pos (show lv + 0 ≤ 16 by omega)]
        simp [hz]
  | n + 1, lv => by
    rw [checkF_eqn]
    have hl : (nestT (n + 1) e).list = [nestT n e] := rfl
    rw [hl, checkL, checkL, nest_check e n (lv + 1)]
    unfold nodeF
    have hp : plainF (nestT (n + 1) e) = true := by unfold plainF; simp [nestT, VT.kind, VT.bool, VT.int, VT.str, VT.list, VT.keys]
    have hle : (if e then 15 else 16) ≤ 16 := by cases e <;> decide
    have hz : (⟨#[]⟩ : ByteArray).size = 0 := rfl
    rw [hp]
    simp only [nestT, VT.kind, VT.int, VT.str, VT.list, VT.keys]
    by_cases h : 16 < lv
    · rw [if_pos h, if_pos (by decide), if_neg (by omega)]
    · rw [if_neg h]
      by_cases h2 : lv + 1 + n ≤ (if e then 15 else 16)
      · rw [if_pos h2, if_pos (show lv + (n + 1) ≤ _ by omega)]
        simp [hz]
      · rw [if_neg h2, if_neg (show ¬ lv + (n + 1) ≤ _ by omega)]
        simp [hz]
theorem nest_valid (e : Bool) (n : Nat) : validF (nestT n e) = if n < (if e then 15 else 16) then 0 else 13 := by
  unfold validF
  rw [nest_check]
  by_cases h : n < (if e then 15 else 16)
  · rw [if_pos h, if_pos (by omega)]
  · rw [if_neg h, if_neg (by omega)]

/-! ### levels, node by node -/
def topE (x : Nat × VT) : Nat := x.1 + (if (x.2.kind = 4 ∨ x.2.kind = 5) ∧ x.2.list.length = 0 then 1 else 0)
def topF (m : Nat) (l : List (Nat × VT)) : Nat := l.foldl (fun m x => max m (topE x)) m
theorem topF_app (m : Nat) (l k : List (Nat × VT)) : topF m (l ++ k) = topF (topF m l) k := by unfold topF; rw [List.foldl_append]
theorem top_nodes : ∀ (n : Nat) (lv m : Nat) (t : VT), t.depth ≤ n → checkF lv t = 0 → 1 ≤ lv → topF m (t.nodes lv) = max m (lv - 1 + levelsF t)
  | 0, _, _, t, h, _, _ => by have := depth_pos t; omega
  | n + 1, lv, m, t, hd, h, h1 => by
    obtain ⟨hn, hc⟩ := check_zero h
    obtain ⟨_, _, _, p4, _⟩ := plain_parts (node_zero hn).2.2.2.1
    have L : ∀ (L : List VT) (m : Nat), (∀ x ∈ L, x.depth ≤ n ∧ checkF (lv + 1) x = 0) → topF m (L.flatMap (VT.nodes (lv + 1))) = max m (if L = [] then 0 else lv + levelsL L) := by
      intro L
      induction L with
      | nil => intro m _; rw [List.flatMap_nil, if_pos rfl, Nat.max_zero]; rfl
      | cons x L ih =>
        intro m hx
        rw [List.flatMap_cons, topF_app, top_nodes n (lv + 1) m x (hx x (List.mem_cons_self ..)).1 (hx x (List.mem_cons_self ..)).2 (by omega), ih _ fun y hy => hx y (List.mem_cons_of_mem _ hy), if_neg (List.cons_ne_nil x L), levelsL]
        by_cases hL : L = []
        · subst hL
          rw [if_pos rfl, levelsL]
          omega
        · rw [if_neg hL]
          omega
    rw [nodes_eqn]
    show topF (max m (topE (lv, t))) _ = _
    rw [L t.list _ fun x hx => ⟨by have := depthL_mem hx; have := depth_list t; omega, hc x hx⟩, levelsF_eqn]
    unfold topE
    by_cases hk : t.kind = 4 ∨ t.kind = 5
    · rw [if_pos hk]
      by_cases hl : t.list = []
      · rw [if_pos hl, if_pos ⟨hk, by rw [hl]; rfl⟩, hl, levelsL]
        show max (max m (lv + 1)) 0 = max m (lv - 1 + max 2 (1 + 0))
        omega
      · have hlen : ¬ t.list.length = 0 := fun e => hl (List.length_eq_zero_iff.1 e)
        rw [if_neg hl, if_neg (fun h => hlen h.2)]
        obtain ⟨x, hx⟩ := List.exists_mem_of_length_pos (show 0 < t.list.length by omega)
        have h2 := levelsL_mem hx
        have h3 := levels_pos x
        show max (max m (lv + 0)) (lv + levelsL t.list) = max m (lv - 1 + max 2 (1 + levelsL t.list))
        omega
    · have hl : t.list = [] := p4 (fun e => hk (.inl e)) (fun e => hk (.inr e))
      rw [if_neg hk, if_pos hl, if_neg (fun h => hk h.1)]
      show max (max m (lv + 0)) 0 = max m (lv - 1 + 1)
      omega
theorem top_levels {t : VT} (h : validF t = 0) : topF 0 (t.nodes 1) = levelsF t := by
  rw [top_nodes _ 1 0 t (Nat.le_refl _) h (Nat.le_refl _)]; omega

/-! ### entries and texts -/
/-- the place of a key -/
def keyPl (key : ByteArray) : List ByteArray → Option Nat
  | [] => none
  | k :: l => if k = key then some 0 else (keyPl key l).map (· + 1)
def getF (t : VT) (key : ByteArray) : Option VT := if t.kind = 5 then (keyPl key t.keys).bind fun i => t.list[i]? else none
def textF (t : VT) : List UInt8 × Nat :=
  if t.kind = 4 ∨ t.kind = 5 then ([], 9) else if validF t ≠ 0 then ([], validF t) else if t.kind = 0 then ([], 0) else if t.kind = 3 then (t.str.data.toList, 0) else (litF t, 0)
def showT (t : VT) : List UInt8 := if validF t = 0 then litF t else []
theorem keyPl_lt : ∀ {l : List ByteArray} {key : ByteArray} {i : Nat}, keyPl key l = some i → i < l.length ∧ l[i]? = some key
  | k :: l, key, i, h => by
    rw [keyPl] at h
    by_cases e : k = key
    · rw [if_pos e] at h
      injection h with h
      subst h e
      exact ⟨by simp, rfl⟩
    · rw [if_neg e] at h
      obtain ⟨j, hj, rfl⟩ := Option.map_eq_some_iff.1 h
      obtain ⟨h1, h2⟩ := keyPl_lt hj
      exact ⟨by simpa using h1, by simpa using h2⟩
theorem keyPl_mem : ∀ {l : List ByteArray} {key : ByteArray}, keyPl key l = none ↔ key ∉ l
  | [], _ => by simp [keyPl]
  | k :: l, key => by
    rw [keyPl]
    by_cases e : k = key
    · rw [if_pos e]; simp [e]
    · rw [if_neg e, Option.map_eq_none_iff, keyPl_mem]
      simp [Ne.symm e]
theorem keyPl_nodup : ∀ {l : List ByteArray} {i : Nat} (hi : i < l.length), l.Nodup → keyPl l[i] l = some i
  | k :: l, 0, _, _ => by rw [keyPl]; simp
  | k :: l, i + 1, hi, h => by
    rw [List.nodup_cons] at h
    have hm : l[i]'(by simpa using hi) ∈ l := List.getElem_mem _
    rw [keyPl, List.getElem_cons_succ, if_neg (fun e => h.1 (by rw [e]; exact hm)), keyPl_nodup (by simpa using hi) h.2]
    rfl
end Go.Proofs.YtomecnncighkgaaGreatDoor
/- Orders of lists, step by step; sizes that a value's slices have; no program in sight. -/
namespace Go.Proofs.YtomecnncighkgaaGreatDoor

/-! ### the order of lists in steps -/
theorem lexC_end {α : Type} {C : α → α → Int} (xs ys : List α) : lexC C (xs.drop xs.length) (ys.drop xs.length) = if xs.length < ys.length then -1 else 0 := by
  rw [List.drop_length]
  by_cases h : xs.length < ys.length
  · rw [if_pos h, List.drop_eq_getElem_cons h, lexC]
  · rw [if_neg h, List.drop_of_length_le (by omega), lexC]
theorem lexC_over {α : Type} {C : α → α → Int} {xs ys : List α} {i : Nat} (h : i < xs.length) (k : ys.length ≤ i) : lexC C (xs.drop i) (ys.drop i) = 1 := by
  rw [List.drop_eq_getElem_cons h, List.drop_of_length_le k, lexC]
theorem lexC_step {α : Type} {C : α → α → Int} {xs ys : List α} {i : Nat} (h : i < xs.length) (k : i < ys.length) : lexC C (xs.drop i) (ys.drop i) = if C xs[i] ys[i] = 0 then lexC C (xs.drop (i + 1)) (ys.drop (i + 1)) else C xs[i] ys[i] := by
  rw [List.drop_eq_getElem_cons h, List.drop_eq_getElem_cons k, lexC]
theorem cmpV_rng (a b : VT) : cmpV a b = -1 ∨ cmpV a b = 0 ∨ cmpV a b = 1 := cmpV_po.rng a b
theorem keyC_def (a b : List ByteArray) : keyC a b = lexC (fun x y : ByteArray => natC x.data.toList y.data.toList) a b := by
  unfold keyC
  induction a generalizing b with
  | nil => cases b <;> rfl
  | cons x a ih =>
    cases b with
    | nil => rfl
    | cons y b =>
      rw [List.map_cons, List.map_cons, lexC, lexC, ih b]

/-! ### the sizes that any memory has, in bytes -/
mutual
def VT.fit : VT → Prop
  | .mk _ _ _ _ L ks => L.length * 88 ≤ 140737488355328 ∧ ks.length * 16 ≤ 140737488355328 ∧ fitL L
def fitL : List VT → Prop
  | [] => True
  | t :: L => t.fit ∧ fitL L
end
theorem fitL_iff : ∀ L : List VT, fitL L ↔ ∀ t ∈ L, t.fit
  | [] => by simp [fitL]
  | t :: L => by rw [fitL, fitL_iff L]; simp
theorem VT.fit_parts {t : VT} (h : t.fit) : t.list.length * 88 ≤ 140737488355328 ∧ t.keys.length * 16 ≤ 140737488355328 ∧ ∀ x ∈ t.list, x.fit := by
  cases t
  rw [VT.fit, fitL_iff] at h
  exact h
/-- a valid value is small enough -/
theorem fit_check : ∀ (n lv : Nat) (t : VT), t.depth ≤ n → checkF lv t = 0 → t.fit
  | 0, _, t, h, _ => by have := depth_pos t; omega
  | n + 1, lv, t, hd, h => by
    obtain ⟨hn, hc⟩ := check_zero h
    obtain ⟨_, _, _, _, _, _, _, h1, h2, _⟩ := node_zero hn
    have hd2 := depth_list t
    cases t with
    | mk k b i s L ks =>
      rw [VT.fit, fitL_iff]
      refine ⟨?_, ?_, fun x hx => fit_check n (lv + 1) x ?_ (hc x hx)⟩
      · have : L.length ≤ 1024 := h1
        omega
      · have : ks.length ≤ 1024 := h2
        omega
      · have := depthL_mem hx
        have : depthL L < _ := hd2
        omega
theorem fit_valid {t : VT} (h : validF t = 0) : t.fit := fit_check _ 1 t (Nat.le_refl _) h
end Go.Proofs.YtomecnncighkgaaGreatDoor
/- Slices of things that lie in several cells each, with the blocks that they reach; lists that grow by append. Plain: no program in sight. -/
namespace Go.Proofs.YtomecnncighkgaaGreatDoor
open Go.RowKit

/-- a thing that lies in some cells behind each other, and reaches other blocks -/
structure ElemK (α : Type) where
  sz : Nat
  R : (Nat → Prop) → World → α → List Value → Prop
  pos : 0 < sz
  len : ∀ {B : Nat → Prop} {w : World} {a : α} {cs : List Value}, R B w a cs → cs.length = sz
  one : ∀ {B : Nat → Prop} {w : World} {a : α} {cs : List Value}, R B w a cs → ∀ u ∈ cs, u.oneCell' = true
  mono : ∀ {B B' : Nat → Prop} {w : World} {a : α} {cs : List Value}, R B w a cs → (∀ b, B b → B' b) → R B' w a cs
  lt : ∀ {B : Nat → Prop} {w : World} {a : α} {cs : List Value}, R B w a cs → R (fun b => B b ∧ b < w.heap.size) w a cs
  keep : ∀ {B : Nat → Prop} {w w1 : World} {a : α} {cs : List Value}, R B w a cs → w.heap.size ≤ w1.heap.size → (∀ b, B b → b < w.heap.size → w1.heap[b]? = w.heap[b]?) → R B w1 a cs

section
variable {α β : Type} (E : ElemK α) (F : ElemK β)
/-- a slice of such things that can be read; every block that it reaches meets B -/
def ElemK.Row (B : Nat → Prop) (w : World) (L : List α) (v : Value) : Prop :=
  (∃ ao cap, v = .slice ao 0 cap ∧ L = []) ∨ ∃ bl off cap, v = .slice (some ⟨bl, off, none⟩) L.length cap ∧ B bl ∧ bl < w.heap.size ∧ L.length ≤ cap ∧
    ∀ (k : Nat) (hk : k < L.length), ∃ cs, (∀ j u, cs[j]? = some u → w.cell? ⟨bl, off + k * E.sz + j, none⟩ = some u) ∧ E.R B w L[k] cs
variable {E F}
theorem ElemK.R.below {B : Nat → Prop} {w w1 : World} {a : α} {cs : List Value} (h : E.R B w a cs) (hb : Below w.heap.size w w1) : E.R B w1 a cs := E.keep h hb.size fun b _ hl => hb.block b hl
theorem ElemK.Row.mono {B B' : Nat → Prop} {w : World} {L : List α} {v : Value} (h : E.Row B w L v) (hB : ∀ b, B b → B' b) : E.Row B' w L v := by
  rcases h with h | ⟨bl, off, cap, h1, h2, h3, h4, h5⟩
  · exact .inl h
  · exact .inr ⟨bl, off, cap, h1, hB _ h2, h3, h4, fun k hk => by
      obtain ⟨cs, c1, c2⟩ := h5 k hk
      exact ⟨cs, c1, E.mono c2 hB⟩⟩
theorem ElemK.Row.lt {B : Nat → Prop} {w : World} {L : List α} {v : Value} (h : E.Row B w L v) : E.Row (fun b => B b ∧ b < w.heap.size) w L v := by
  rcases h with h | ⟨bl, off, cap, h1, h2, h3, h4, h5⟩
  · exact .inl h
  · exact .inr ⟨bl, off, cap, h1, ⟨h2, h3⟩, h3, h4, fun k hk => by
      obtain ⟨cs, c1, c2⟩ := h5 k hk
      exact ⟨cs, c1, E.lt c2⟩⟩
theorem ElemK.Row.keep {B : Nat → Prop} {w w1 : World} {L : List α} {v : Value} (h : E.Row B w L v) (hs : w.heap.size ≤ w1.heap.size) (hb : ∀ b, B b → b < w.heap.size → w1.heap[b]? = w.heap[b]?) : E.Row B w1 L v := by
  rcases h with h | ⟨bl, off, cap, h1, h2, h3, h4, h5⟩
  · exact .inl h
  · exact .inr ⟨bl, off, cap, h1, h2, Nat.lt_of_lt_of_le h3 hs, h4, fun k hk => by
      obtain ⟨cs, c1, c2⟩ := h5 k hk
      exact ⟨cs, fun j u hu => (World.cell?_of_block (a := ⟨bl, off + k * E.sz + j, none⟩) (hb bl h2 h3)).trans (c1 j u hu), E.keep c2 hs hb⟩⟩
theorem ElemK.Row.below {B : Nat → Prop} {w w1 : World} {L : List α} {v : Value} (h : E.Row B w L v) (hb : Below w.heap.size w w1) : E.Row B w1 L v := h.keep hb.size fun b _ hl => hb.block b hl
theorem ElemK.Row.form {B : Nat → Prop} {w : World} {L : List α} {v : Value} (h : E.Row B w L v) : ∃ ao cap, v = .slice ao L.length cap := by
  rcases h with ⟨ao, cap, rfl, rfl⟩ | ⟨bl, off, cap, rfl, _⟩
  · exact ⟨ao, cap, rfl⟩
  · exact ⟨_, cap, rfl⟩
theorem ElemK.Row.at {B : Nat → Prop} {w : World} {L : List α} {ao : Option Addr} {n cap : Nat} (h : E.Row B w L (.slice ao n cap)) {k : Nat} (hk : k < L.length) :
    ∃ bl off cs, ao = some ⟨bl, off, none⟩ ∧ B bl ∧ bl < w.heap.size ∧ (∀ j u, cs[j]? = some u → w.cell? ⟨bl, off + k * E.sz + j, none⟩ = some u) ∧ E.R B w L[k] cs := by
  rcases h with ⟨_, _, _, rfl⟩ | ⟨bl, off, c, e, h2, h3, h4, h5⟩
  · cases hk
  · injection e with e1 e2 e3
    obtain ⟨cs, c1, c2⟩ := h5 k hk
    exact ⟨bl, off, cs, e1, h2, h3, c1, c2⟩
theorem ElemK.Row.nil {B : Nat → Prop} {w : World} {ao : Option Addr} {cap : Nat} : E.Row B w [] (.slice ao 0 cap) := .inl ⟨ao, cap, rfl, rfl⟩

variable (E F) in
/-- slices of such things, as one cell -/
def ElemK.sl : ElemK (List α) where
  sz := 1
  R B w L cs := ∃ v, cs = [v] ∧ E.Row B w L v
  pos := by decide
  len := by rintro B w a cs ⟨v, rfl, _⟩; rfl
  one := by
    rintro B w a cs ⟨v, rfl, h⟩ u hu
    obtain ⟨ao, cap, rfl⟩ := h.form
    rw [List.mem_singleton.1 hu]
    rfl
  mono := by rintro B B' w a cs ⟨v, rfl, h⟩ hB; exact ⟨v, rfl, h.mono hB⟩
  lt := by rintro B w a cs ⟨v, rfl, h⟩; exact ⟨v, rfl, h.lt⟩
  keep := by rintro B w w1 a cs ⟨v, rfl, h⟩ hs hb; exact ⟨v, rfl, h.keep hs hb⟩
variable (E F) in
/-- one thing behind the other -/
def ElemK.two : ElemK (α × β) where
  sz := E.sz + F.sz
  R B w x cs := ∃ c1 c2, cs = c1 ++ c2 ∧ E.R B w x.1 c1 ∧ F.R B w x.2 c2
  pos := by have := E.pos; omega
  len := by rintro B w a cs ⟨c1, c2, rfl, h1, h2⟩; rw [List.length_append, E.len h1, F.len h2]
  one := by
    rintro B w a cs ⟨c1, c2, rfl, h1, h2⟩ u hu
    rcases List.mem_append.1 hu with hu | hu
    · exact E.one h1 u hu
    · exact F.one h2 u hu
  mono := by rintro B B' w a cs ⟨c1, c2, rfl, h1, h2⟩ hB; exact ⟨c1, c2, rfl, E.mono h1 hB, F.mono h2 hB⟩
  lt := by rintro B w a cs ⟨c1, c2, rfl, h1, h2⟩; exact ⟨c1, c2, rfl, E.lt h1, F.lt h2⟩
  keep := by rintro B w w1 a cs ⟨c1, c2, rfl, h1, h2⟩ hs hb; exact ⟨c1, c2, rfl, E.keep h1 hs hb, F.keep h2 hs hb⟩
end
/-- things that are one cell and reach no block -/
def cellK {α : Type} (f : α → Value) (h1 : ∀ a, (f a).oneCell' = true) : ElemK α where
  sz := 1
  R _ _ a cs := cs = [f a]
  pos := by decide
  len := by rintro B w a cs rfl; rfl
  one := by rintro B w a cs rfl u hu; rw [List.mem_singleton.1 hu]; exact h1 a
  mono := fun h _ => h
  lt := fun h => h
  keep := fun h _ _ => h
def EStr : ElemK ByteArray := cellK .string fun _ => rfl
def EInt : ElemK Int := cellK (.int .i64) fun _ => rfl
def EBool : ElemK Bool := cellK .bool fun _ => rfl

theorem strs_row {B : Nat → Prop} {w : World} {v : Value} {ss : List ByteArray} (h : EStr.Row B w ss v) : StrsAt w v ss := by
  rcases h with h | ⟨bl, off, cap, h1, _, h3, h4, h5⟩
  · exact .inl h
  · refine .inr ⟨bl, off, cap, h1, h3, h4, fun i hi => ?_⟩
    obtain ⟨cs, c1, rfl⟩ := h5 i hi
    have := c1 0 _ rfl
    rw [show EStr.sz = 1 from rfl, Nat.mul_one, Nat.add_zero] at this
    rw [List.getD, List.getElem?_eq_getElem hi]
    exact this
theorem row_strs {w : World} {v : Value} {ss : List ByteArray} (h : StrsAt w v ss) : EStr.Row (fun b => b < w.heap.size) w ss v := by
  rcases h with h | ⟨bl, off, cap, h1, h3, h4, h5⟩
  · exact .inl h
  · refine .inr ⟨bl, off, cap, h1, h3, h3, h4, fun i hi => ⟨[.string ss[i]], fun j u hu => ?_, rfl⟩⟩
    have hj : j = 0 := by
      have := (List.getElem?_eq_some_iff.1 hu).1
      simpa using this
    subst hj
    injection hu with hu
    subst hu
    have := h5 i hi
    rw [List.getD, List.getElem?_eq_getElem hi] at this
    rw [show EStr.sz = 1 from rfl, Nat.mul_one, Nat.add_zero]
    exact this

/-! ### lists that grow by append -/
section
variable {α : Type} (E : ElemK α)
/-- a slice that is the call's own, in a row of its own, with room behind it -/
def ElemK.Own (e : TypeId) (base : Nat) (B : Nat → Prop) (w : World) (L : List α) (v : Value) : Prop :=
  ∃ css : List (List Value), css.length = L.length ∧ (∀ (k : Nat) (h1 : k < L.length) (h2 : k < css.length), E.R (fun b => B b ∧ v.ownBlock ≠ some b) w L[k] css[k]) ∧ w.ownsRow base e E.sz v L.length css.flatten
variable {E} {e : TypeId} {base : Nat} {B : Nat → Prop} {w w1 : World} {L : List α} {v : Value}
theorem ElemK.Own.nil : E.Own e base B w [] (.slice none 0 0) := ⟨[], rfl, fun k h _ => absurd h (Nat.not_lt_zero k), World.ownsRow_nil _ _ _ _⟩
theorem ElemK.Own.form (h : E.Own e base B w L v) : ∃ ao cap, v = .slice ao L.length cap := by
  obtain ⟨css, _, _, h3⟩ := h
  exact ownsRow_form h3
theorem ElemK.Own.low (h : E.Own e base B w L v) : ∀ k, v.ownBlock = some k → base ≤ k ∧ k < w.heap.size := by
  obtain ⟨css, _, _, h3⟩ := h
  exact h3.lt
theorem ElemK.Own.mono {B' : Nat → Prop} (h : E.Own e base B w L v) (hB : ∀ b, B b → B' b) : E.Own e base B' w L v := by
  obtain ⟨css, h1, h2, h3⟩ := h
  exact ⟨css, h1, fun k a b => E.mono (h2 k a b) fun b hb => ⟨hB b hb.1, hb.2⟩, h3⟩
theorem ElemK.Own.keep (h : E.Own e base B w L v) (hg : w.grownBy w1 none) : E.Own e base B w1 L v := by
  obtain ⟨css, h1, h2, h3⟩ := h
  exact ⟨css, h1, fun k a b => E.keep (h2 k a b) hg.size fun b _ hl => hg.block b hl (by simp), h3.kept hg (by cases v.ownBlock <;> simp)⟩
theorem ElemK.Own.below (h : E.Own e base B w L v) (hb : Below w.heap.size w w1) : E.Own e base B w1 L v :=
  h.keep ⟨hb.os, hb.tape, hb.output, hb.size, fun k hk _ => hb.block k hk⟩
theorem ElemK.Own.drew (h : E.Own e base B w L v) : E.Own e base B w.drew L v := h.keep ⟨rfl, rfl, rfl, Nat.le_refl _, fun _ _ _ => rfl⟩
/-- a store elsewhere -/
theorem ElemK.Own.wrote {b : Nat} {o : Obj} (h : E.Own e base B w L v) (hw : Wrote b o w w1) (hv : v.ownBlock ≠ some b) (hB : ∀ c, B c → c ≠ b) : E.Own e base B w1 L v := by
  obtain ⟨css, h1, h2, h3⟩ := h
  refine ⟨css, h1, fun k a c => E.keep (h2 k a c) (Nat.le_of_eq hw.size.symm) fun d hd _ => hw.block d (hB d hd.1), ?_⟩
  exact h3.kept (row := some b) ⟨hw.os, hw.tape, hw.output, Nat.le_of_eq hw.size.symm, fun k _ hk => hw.block k (fun e => hk (by rw [e]))⟩ (.inr hv)
/-- what is owned can be read -/
theorem flatten_at {sz : Nat} : ∀ (css : List (List Value)) (k : Nat) (hk : k < css.length) (j : Nat) (u : Value), (∀ c ∈ css, c.length = sz) → css[k][j]? = some u → css.flatten[k * sz + j]? = some u
  | c :: css, 0, _, j, u, hs, hu => by
    rw [Nat.zero_mul, Nat.zero_add, List.flatten_cons, List.getElem?_append_left (by rw [List.getElem?_eq_some_iff] at hu; exact hu.1)]
    exact hu
  | c :: css, k + 1, hk, j, u, hs, hu => by
    have hc := hs c (List.mem_cons_self ..)
    rw [List.flatten_cons, List.getElem?_append_right (by rw [hc, Nat.succ_mul]; omega), hc, show (k + 1) * sz + j - sz = k * sz + j by rw [Nat.succ_mul]; omega]
    exact flatten_at css k (by simpa using hk) j u (fun d hd => hs d (List.mem_cons_of_mem _ hd)) hu
theorem ElemK.Own.row (h : E.Own e base B w L v) {B' : Nat → Prop} (hB : ∀ b, B b → B' b) (hb : ∀ b, base ≤ b → B' b) : E.Row B' w L v := by
  obtain ⟨css, h1, h2, h3⟩ := h
  have hlen : ∀ c ∈ css, c.length = E.sz := fun c hc => by
    obtain ⟨k, hk, rfl⟩ := List.getElem_of_mem hc
    exact E.len (h2 k (by omega) hk)
  have h3' := h3
  rcases h3.2 with ⟨rfl, h0⟩ | ⟨g, cap, cur, rfl, hbg, hg, hnc, _⟩
  · have : L = [] := List.length_eq_zero_iff.1 h0
    subst this
    exact .nil
  · refine .inr ⟨g, 0, cap, rfl, hb g hbg, (Array.getElem?_eq_some_iff.1 hg).1, hnc, fun k hk => ⟨css[k]'(by omega), fun j u hu => ?_, E.mono (h2 k hk (by omega)) fun b hb => hB b hb.1⟩⟩
    have := h3'.cells (g := g) rfl (k * E.sz + j) u (flatten_at css k (by omega) j u hlen hu)
    rw [show (⟨g, 0, none⟩ : Addr).add (k * E.sz + j) = ⟨g, k * E.sz + j, none⟩ from by unfold Addr.add; split <;> simp_all] at this
    rw [Nat.zero_add]
    exact this
theorem ElemK.Own.lt (h : E.Own e base B w L v) : E.Own e base (fun b => B b ∧ b < w.heap.size) w L v := by
  obtain ⟨css, h1, h2, h3⟩ := h
  exact ⟨css, h1, fun k a b => E.mono (E.lt (h2 k a b)) fun b hb => ⟨⟨hb.1.1, hb.2⟩, hb.1.2⟩, h3⟩
/-- another row has grown -/
theorem ElemK.Own.kept {row : Option Nat} (h : E.Own e base B w L v) (hg : w.grownBy w1 row) (hv : v.ownBlock = none ∨ v.ownBlock ≠ row) (hB : ∀ b, B b → b < w.heap.size → some b ≠ row) : E.Own e base B w1 L v := by
  obtain ⟨css, h1, h2, h3⟩ := h
  exact ⟨css, h1, fun k a b => E.keep (h2 k a b) hg.size fun b hb hl => hg.block b hl (hB b hb.1 hl), h3.kept hg hv⟩
/-- the cells of a row, side by side -/
theorem list_pick {α : Type} {R : Nat → α → Prop} : ∀ n : Nat, (∀ i, i < n → ∃ q, R i q) → ∃ qs : List α, qs.length = n ∧ ∀ (i : Nat) (h : i < qs.length), R i qs[i]
  | 0, _ => ⟨[], rfl, fun i h => by cases h⟩
  | n + 1, hR => by
    obtain ⟨qs, hl, hq⟩ := list_pick n fun i hi => hR i (by omega)
    obtain ⟨q, hq'⟩ := hR n (by omega)
    refine ⟨qs ++ [q], by simp [hl], fun i h => ?_⟩
    by_cases hi : i < qs.length
    · rw [List.getElem_append_left hi]; exact hq i hi
    · have : i = n := by simp at h; omega
      subst this
      rw [List.getElem_append_right (by omega)]
      simp [hl]
      exact hq'
theorem flatten_inv {sz : Nat} : ∀ (css : List (List Value)), (∀ c ∈ css, c.length = sz) → ∀ (j : Nat) (u : Value), css.flatten[j]? = some u → ∃ (k r : Nat) (hk : k < css.length), j = k * sz + r ∧ css[k][r]? = some u
  | [], _, j, u, h => by simp at h
  | c :: css, hs, j, u, h => by
    have hc := hs c (List.mem_cons_self ..)
    rw [List.flatten_cons] at h
    by_cases hj : j < sz
    · rw [List.getElem?_append_left (by rw [hc]; exact hj)] at h
      exact ⟨0, j, by simp, by omega, h⟩
    · rw [List.getElem?_append_right (by rw [hc]; omega), hc] at h
      obtain ⟨k, r, hk, e, h2⟩ := flatten_inv css (fun d hd => hs d (List.mem_cons_of_mem _ hd)) _ u h
      exact ⟨k + 1, r, by simpa using hk, by rw [Nat.succ_mul]; omega, h2⟩
theorem flatten_len {sz : Nat} : ∀ (css : List (List Value)), (∀ c ∈ css, c.length = sz) → css.flatten.length = css.length * sz
  | [], _ => by simp
  | c :: css, hs => by
    rw [List.flatten_cons, List.length_append, flatten_len css fun d hd => hs d (List.mem_cons_of_mem _ hd), hs c (List.mem_cons_self ..), List.length_cons, Nat.succ_mul]
    omega
theorem ElemK.Row.flat {bl off n cap : Nat} (h : E.Row B w L (.slice (some ⟨bl, off, none⟩) n cap)) : ∃ css : List (List Value), css.length = L.length ∧ (∀ (k : Nat) (h1 : k < L.length) (h2 : k < css.length), E.R B w L[k] css[k]) ∧
    (∀ j u, css.flatten[j]? = some u → w.cell? ⟨bl, off + j, none⟩ = some u) ∧ css.flatten.length = L.length * E.sz ∧ ∀ u ∈ css.flatten, u.oneCell' = true := by
  obtain ⟨css, hl, hR⟩ := list_pick (R := fun k (cs : List Value) => ∃ hk : k < L.length, (∀ j u, cs[j]? = some u → w.cell? ⟨bl, off + k * E.sz + j, none⟩ = some u) ∧ E.R B w L[k] cs) L.length (fun k hk => by
    obtain ⟨bl', off', cs, e, _, _, c1, c2⟩ := h.at hk
    injection e with e
    injection e with e1 e2
    subst e1 e2
    exact ⟨cs, hk, c1, c2⟩)
  have hlen : ∀ c ∈ css, c.length = E.sz := fun c hc => by
    obtain ⟨k, hk, rfl⟩ := List.getElem_of_mem hc
    obtain ⟨_, _, h2⟩ := hR k hk
    exact E.len h2
  refine ⟨css, hl, fun k h1 h2 => (hR k h2).2.2, fun j u hu => ?_, by rw [flatten_len css hlen, hl], fun u hu => ?_⟩
  · obtain ⟨k, r, hk, rfl, h2⟩ := flatten_inv css hlen j u hu
    have := (hR k hk).2.1 r u h2
    rw [Nat.add_assoc] at this
    exact this
  · obtain ⟨c, hc, hu⟩ := List.mem_flatten.1 hu
    obtain ⟨k, hk, rfl⟩ := List.getElem_of_mem hc
    exact E.one (hR k hk).2.2 u hu
/-- one thing more -/
theorem ElemK.Own.push {css : List (List Value)} {x : α} {cs : List Value} {g cap : Nat} (hl : css.length = L.length) (hR : ∀ (k : Nat) (h1 : k < L.length) (h2 : k < css.length), E.R (fun b => B b ∧ v.ownBlock ≠ some b) w L[k] css[k])
    (hx : E.R (fun b => B b ∧ v.ownBlock ≠ some b) w x cs) (hg : w.grownBy w1 v.ownBlock) (hat : v.ownBlock = some g ∨ g = w.heap.size)
    (hown : w1.ownsRow base e E.sz (.slice (some ⟨g, 0, none⟩) (L.length + 1) cap) (L.length + 1) (css.flatten ++ cs)) : E.Own e base B w1 (L ++ [x]) (.slice (some ⟨g, 0, none⟩) (L.length + 1) cap) := by
  have key : ∀ (y : α) (c : List Value), E.R (fun b => B b ∧ v.ownBlock ≠ some b) w y c → E.R (fun b => B b ∧ (Value.slice (some ⟨g, 0, none⟩) (L.length + 1) cap).ownBlock ≠ some b) w1 y c := fun y c h => by
    refine E.mono (E.keep (E.lt h) hg.size fun b hb hlt => hg.block b hlt (fun e => hb.1.2 e.symm)) fun b hb => ⟨hb.1.1, fun e => ?_⟩
    have e : g = b := Option.some.inj e
    subst e
    rcases hat with h1 | h1
    · exact hb.1.2 h1
    · exact absurd hb.2 (by omega)
  refine ⟨css ++ [cs], by rw [List.length_append, List.length_append, hl]; rfl, fun k h1 h2 => ?_, ?_⟩
  · by_cases hk : k < L.length
    · rw [List.getElem_append_left hk, List.getElem_append_left (by omega)]
      exact key _ _ (hR k hk (by omega))
    · have : k = L.length := by rw [List.length_append] at h1; simp at h1; omega
      subst this
      rw [List.getElem_append_right (Nat.le_refl _), List.getElem_append_right (by omega)]
      simpa [hl] using key _ _ hx
  · rw [List.length_append, List.flatten_append, List.flatten_cons, List.flatten_nil, List.append_nil]
    exact hown
end
end Go.Proofs.YtomecnncighkgaaGreatDoor
/- Values in memory, with the blocks that they reach. -/
namespace Go.Proofs.YtomecnncighkgaaGreatDoor
open Go.RowKit

mutual
/-- six cells that hold a value; every block that it reaches meets B -/
def VCellB (B : Nat → Prop) (w : World) : VT → List Value → Prop
  | .mk k b n s L ks, cs => ∃ lv kv, cs = [.int .i64 k, .bool b, .int .i64 n, .string s, lv, kv] ∧ EStr.Row B w ks kv ∧
      ((∃ ao cap, lv = .slice ao 0 cap ∧ L = []) ∨ ∃ bl off cap, lv = .slice (some ⟨bl, off, none⟩) L.length cap ∧ B bl ∧ bl < w.heap.size ∧ L.length ≤ cap ∧ VRowB B w L bl off)
def VRowB (B : Nat → Prop) (w : World) : List VT → Nat → Nat → Prop
  | [], _, _ => True
  | t :: L, bl, off => (∃ cs, (∀ j u, cs[j]? = some u → w.cell? ⟨bl, off + j, none⟩ = some u) ∧ VCellB B w t cs) ∧ VRowB B w L bl (off + 6)
end
section
variable {B B' : Nat → Prop} {w w1 : World}
mutual
theorem VCellB.mono (hB : ∀ b, B b → B' b) : ∀ (t : VT) (cs : List Value), VCellB B w t cs → VCellB B' w t cs
  | .mk k b n s L ks, cs, h => by
    rw [VCellB] at h ⊢
    obtain ⟨lv, kv, h1, h2, h3⟩ := h
    refine ⟨lv, kv, h1, h2.mono hB, ?_⟩
    rcases h3 with h3 | ⟨bl, off, cap, e, hb, hlt, hc, hr⟩
    · exact .inl h3
    · exact .inr ⟨bl, off, cap, e, hB _ hb, hlt, hc, VRowB.mono hB L bl off hr⟩
theorem VRowB.mono (hB : ∀ b, B b → B' b) : ∀ (L : List VT) (bl off : Nat), VRowB B w L bl off → VRowB B' w L bl off
  | [], _, _, _ => by rw [VRowB]; trivial
  | t :: L, bl, off, h => by
    rw [VRowB] at h ⊢
    obtain ⟨⟨cs, h1, h2⟩, h3⟩ := h
    exact ⟨⟨cs, h1, VCellB.mono hB t cs h2⟩, VRowB.mono hB L bl (off + 6) h3⟩
end
mutual
theorem VCellB.lt : ∀ (t : VT) (cs : List Value), VCellB B w t cs → VCellB (fun b => B b ∧ b < w.heap.size) w t cs
  | .mk k b n s L ks, cs, h => by
    rw [VCellB] at h ⊢
    obtain ⟨lv, kv, h1, h2, h3⟩ := h
    refine ⟨lv, kv, h1, h2.lt, ?_⟩
    rcases h3 with h3 | ⟨bl, off, cap, e, hb, hlt, hc, hr⟩
    · exact .inl h3
    · exact .inr ⟨bl, off, cap, e, ⟨hb, hlt⟩, hlt, hc, VRowB.lt L bl off hr⟩
theorem VRowB.lt : ∀ (L : List VT) (bl off : Nat), VRowB B w L bl off → VRowB (fun b => B b ∧ b < w.heap.size) w L bl off
  | [], _, _, _ => by rw [VRowB]; trivial
  | t :: L, bl, off, h => by
    rw [VRowB] at h ⊢
    obtain ⟨⟨cs, h1, h2⟩, h3⟩ := h
    exact ⟨⟨cs, h1, VCellB.lt t cs h2⟩, VRowB.lt L bl (off + 6) h3⟩
end
mutual
theorem VCellB.keep (hs : w.heap.size ≤ w1.heap.size) (hb : ∀ b, B b → b < w.heap.size → w1.heap[b]? = w.heap[b]?) : ∀ (t : VT) (cs : List Value), VCellB B w t cs → VCellB B w1 t cs
  | .mk k b n s L ks, cs, h => by
    rw [VCellB] at h ⊢
    obtain ⟨lv, kv, h1, h2, h3⟩ := h
    refine ⟨lv, kv, h1, h2.keep hs hb, ?_⟩
    rcases h3 with h3 | ⟨bl, off, cap, e, hB, hlt, hc, hr⟩
    · exact .inl h3
    · exact .inr ⟨bl, off, cap, e, hB, Nat.lt_of_lt_of_le hlt hs, hc, VRowB.keep hs hb L bl off hB hlt hr⟩
theorem VRowB.keep (hs : w.heap.size ≤ w1.heap.size) (hb : ∀ b, B b → b < w.heap.size → w1.heap[b]? = w.heap[b]?) : ∀ (L : List VT) (bl off : Nat), B bl → bl < w.heap.size → VRowB B w L bl off → VRowB B w1 L bl off
  | [], _, _, _, _, _ => by rw [VRowB]; trivial
  | t :: L, bl, off, hB, hlt, h => by
    rw [VRowB] at h ⊢
    obtain ⟨⟨cs, h1, h2⟩, h3⟩ := h
    exact ⟨⟨cs, fun j u hu => (World.cell?_of_block (a := ⟨bl, off + j, none⟩) (hb bl hB hlt)).trans (h1 j u hu), VCellB.keep hs hb t cs h2⟩, VRowB.keep hs hb L bl (off + 6) hB hlt h3⟩
end
mutual
theorem VCellB.cell : ∀ (t : VT) (cs : List Value), VCellB B w t cs → VCell w t cs
  | .mk k b n s L ks, cs, h => by
    rw [VCellB] at h
    rw [VCell]
    obtain ⟨lv, kv, h1, h2, h3⟩ := h
    refine ⟨lv, kv, h1, strs_row h2, ?_⟩
    rcases h3 with h3 | ⟨bl, off, cap, e, hB, hlt, hc, hr⟩
    · exact .inl h3
    · exact .inr ⟨bl, off, cap, e, hlt, hc, VRowB.row L bl off hr⟩
theorem VRowB.row : ∀ (L : List VT) (bl off : Nat), VRowB B w L bl off → VRow w L bl off
  | [], _, _, _ => by rw [VRow]; trivial
  | t :: L, bl, off, h => by
    rw [VRowB] at h
    rw [VRow]
    obtain ⟨⟨cs, h1, h2⟩, h3⟩ := h
    exact ⟨⟨cs, h1, VCellB.cell t cs h2⟩, VRowB.row L bl (off + 6) h3⟩
end
mutual
theorem VCell.low : ∀ (t : VT) (cs : List Value), VCell w t cs → VCellB (fun b => b < w.heap.size) w t cs
  | .mk k b n s L ks, cs, h => by
    rw [VCell] at h
    rw [VCellB]
    obtain ⟨lv, kv, h1, h2, h3⟩ := h
    refine ⟨lv, kv, h1, row_strs h2, ?_⟩
    rcases h3 with h3 | ⟨bl, off, cap, e, hlt, hc, hr⟩
    · exact .inl h3
    · exact .inr ⟨bl, off, cap, e, hlt, hlt, hc, VRow.low L bl off hr⟩
theorem VRow.low : ∀ (L : List VT) (bl off : Nat), VRow w L bl off → VRowB (fun b => b < w.heap.size) w L bl off
  | [], _, _, _ => by rw [VRowB]; trivial
  | t :: L, bl, off, h => by
    rw [VRow] at h
    rw [VRowB]
    obtain ⟨⟨cs, h1, h2⟩, h3⟩ := h
    exact ⟨⟨cs, h1, VCell.low t cs h2⟩, VRow.low L bl (off + 6) h3⟩
end
theorem vcellB_slices {t : VT} {cs : List Value} (h : VCellB B w t cs) : ∃ lo lc ko kc, cs = [.int .i64 t.kind, .bool t.bool, .int .i64 t.int, .string t.str, .slice lo t.list.length lc, .slice ko t.keys.length kc] := by
  cases t
  rw [VCellB] at h
  obtain ⟨lv, kv, rfl, h1, h2⟩ := h
  obtain ⟨ko, kc, rfl⟩ := h1.form
  rcases h2 with ⟨ao, cap, rfl, rfl⟩ | ⟨bl, off, cap, rfl, _⟩
  · exact ⟨_, _, _, _, rfl⟩
  · exact ⟨_, _, _, _, rfl⟩
end
/-- values as things of six cells -/
def EVal : ElemK VT where
  sz := 6
  R B w t cs := VCellB B w t cs
  pos := by decide
  len := by
    intro B w t cs h
    obtain ⟨_, _, _, _, rfl⟩ := vcellB_slices h
    rfl
  one := by
    intro B w t cs h u hu
    obtain ⟨_, _, _, _, rfl⟩ := vcellB_slices h
    simp only [List.mem_cons, List.not_mem_nil, or_false] at hu
    rcases hu with rfl | rfl | rfl | rfl | rfl | rfl <;> rfl
  mono := fun h hB => VCellB.mono hB _ _ h
  lt := fun h => VCellB.lt _ _ h
  keep := fun h hs hb => VCellB.keep hs hb _ _ h
def EVar : ElemK VR := EStr.two EVal
section
variable {B : Nat → Prop} {w : World}
theorem vrowB_cons {t : VT} {L : List VT} {bl off : Nat} : VRowB B w (t :: L) bl off ↔ (∃ cs, (∀ j u, cs[j]? = some u → w.cell? ⟨bl, off + j, none⟩ = some u) ∧ VCellB B w t cs) ∧ VRowB B w L bl (off + 6) := by
  rw [VRowB]
theorem VRowB.at : ∀ {L : List VT} {bl off : Nat}, VRowB B w L bl off → ∀ {k : Nat} (hk : k < L.length), ∃ cs, (∀ j u, cs[j]? = some u → w.cell? ⟨bl, off + k * 6 + j, none⟩ = some u) ∧ VCellB B w L[k] cs
  | [], _, _, _, _, hk => by cases hk
  | t :: L, bl, off, h, 0, _ => by
    rw [vrowB_cons] at h
    obtain ⟨⟨cs, h1, h2⟩, _⟩ := h
    exact ⟨cs, fun j u hu => by rw [Nat.zero_mul, Nat.add_zero]; exact h1 j u hu, h2⟩
  | t :: L, bl, off, h, k + 1, hk => by
    rw [vrowB_cons] at h
    obtain ⟨cs, h1, h2⟩ := VRowB.at h.2 (k := k) (by simpa using hk)
    refine ⟨cs, fun j u hu => ?_, h2⟩
    have := h1 j u hu
    rwa [show off + 6 + k * 6 + j = off + (k + 1) * 6 + j by omega] at this
theorem VRowB.make : ∀ {L : List VT} {bl off : Nat}, (∀ k (hk : k < L.length), ∃ cs, (∀ j u, cs[j]? = some u → w.cell? ⟨bl, off + k * 6 + j, none⟩ = some u) ∧ VCellB B w L[k] cs) → VRowB B w L bl off
  | [], _, _, _ => by rw [VRowB]; trivial
  | t :: L, bl, off, h => by
    rw [vrowB_cons]
    refine ⟨?_, VRowB.make fun k hk => ?_⟩
    · obtain ⟨cs, h1, h2⟩ := h 0 (by simp)
      exact ⟨cs, fun j u hu => by have := h1 j u hu; rwa [Nat.zero_mul, Nat.add_zero] at this, h2⟩
    · obtain ⟨cs, h1, h2⟩ := h (k + 1) (by simpa using hk)
      refine ⟨cs, fun j u hu => ?_, h2⟩
      have := h1 j u hu
      rwa [show off + (k + 1) * 6 + j = off + 6 + k * 6 + j by omega] at this
theorem vcellB_mk {k : Int} {b : Bool} {n : Int} {s : ByteArray} {L : List VT} {ks : List ByteArray} {cs : List Value} :
    VCellB B w (.mk k b n s L ks) cs ↔ ∃ lv kv, cs = [.int .i64 k, .bool b, .int .i64 n, .string s, lv, kv] ∧ EStr.Row B w ks kv ∧ EVal.Row B w L lv := by
  rw [VCellB]
  constructor
  · rintro ⟨lv, kv, h1, h2, h3⟩
    refine ⟨lv, kv, h1, h2, ?_⟩
    rcases h3 with h3 | ⟨bl, off, cap, e, hb, hlt, hc, hr⟩
    · exact .inl h3
    · exact .inr ⟨bl, off, cap, e, hb, hlt, hc, fun k hk => hr.at hk⟩
  · rintro ⟨lv, kv, h1, h2, h3⟩
    refine ⟨lv, kv, h1, h2, ?_⟩
    rcases h3 with h3 | ⟨bl, off, cap, e, hb, hlt, hc, hr⟩
    · exact .inl h3
    · exact .inr ⟨bl, off, cap, e, hb, hlt, hc, VRowB.make hr⟩
theorem vlist_row {L : List VT} {v : Value} (h : EVal.Row B w L v) : VList w L v := by
  rcases h with h | ⟨bl, off, cap, e, hb, hlt, hc, hr⟩
  · exact .inl h
  · exact .inr ⟨bl, off, cap, e, hlt, hc, VRowB.row L bl off (VRowB.make hr)⟩
theorem row_vlist {L : List VT} {v : Value} (h : VList w L v) : EVal.Row (fun b => b < w.heap.size) w L v := by
  rcases h with h | ⟨bl, off, cap, e, hlt, hc, hr⟩
  · exact .inl h
  · exact .inr ⟨bl, off, cap, e, hlt, hlt, hc, fun k hk => (VRow.low L bl off hr).at hk⟩
/-- a value as it is handed over, with the blocks that it reaches -/
def VAtB (B : Nat → Prop) (w : World) (v : Value) (t : VT) : Prop := ∃ cs, v = .agg cs.toArray ∧ VCellB B w t cs
theorem VAtB.at_ {v : Value} {t : VT} (h : VAtB B w v t) : VAt w v t := by
  obtain ⟨cs, h1, h2⟩ := h
  exact ⟨cs, h1, VCellB.cell t cs h2⟩
theorem VAt.low {v : Value} {t : VT} (h : VAt w v t) : VAtB (fun b => b < w.heap.size) w v t := by
  obtain ⟨cs, h1, h2⟩ := h
  exact ⟨cs, h1, VCell.low t cs h2⟩
theorem VAtB.below {w1 : World} {v : Value} {t : VT} (h : VAtB B w v t) (hb : Below w.heap.size w w1) : VAtB B w1 v t := by
  obtain ⟨cs, h1, h2⟩ := h
  exact ⟨cs, h1, VCellB.keep hb.size (fun b _ hl => hb.block b hl) t cs h2⟩
theorem VAtB.mono {B' : Nat → Prop} {v : Value} {t : VT} (h : VAtB B w v t) (hB : ∀ b, B b → B' b) : VAtB B' w v t := by
  obtain ⟨cs, h1, h2⟩ := h
  exact ⟨cs, h1, VCellB.mono hB t cs h2⟩
theorem VAtB.open {v : Value} {t : VT} (h : VAtB B w v t) : ∃ lo lc ko kc, v = .agg #[.int .i64 t.kind, .bool t.bool, .int .i64 t.int, .string t.str, .slice lo t.list.length lc, .slice ko t.keys.length kc] ∧
    EStr.Row B w t.keys (.slice ko t.keys.length kc) ∧ EVal.Row B w t.list (.slice lo t.list.length lc) := by
  obtain ⟨cs, rfl, h⟩ := h
  obtain ⟨lo, lc, ko, kc, rfl⟩ := vcellB_slices h
  cases t
  rw [vcellB_mk] at h
  obtain ⟨lv, kv, e, h1, h2⟩ := h
  simp only [List.cons.injEq, and_true] at e
  obtain ⟨_, _, _, _, e1, e2⟩ := e
  subst e1 e2
  exact ⟨lo, lc, ko, kc, rfl, h1, h2⟩
theorem VAtB.make {t : VT} {lo ko : Option Addr} {lc kc : Nat} (h1 : EStr.Row B w t.keys (.slice ko t.keys.length kc)) (h2 : EVal.Row B w t.list (.slice lo t.list.length lc)) :
    VAtB B w (.agg #[.int .i64 t.kind, .bool t.bool, .int .i64 t.int, .string t.str, .slice lo t.list.length lc, .slice ko t.keys.length kc]) t := by
  cases t
  exact ⟨_, rfl, vcellB_mk.2 ⟨_, _, rfl, h1, h2⟩⟩
/-- the cells of a variable -/
theorem evar_cells {x : VR} {cs : List Value} (h : EVar.R B w x cs) : ∃ c2, cs = .string x.1 :: c2 ∧ VCellB B w x.2 c2 := by
  obtain ⟨c1, c2, rfl, h1, h2⟩ := h
  have h1 : c1 = [.string x.1] := h1
  subst h1
  exact ⟨c2, rfl, h2⟩
theorem evar_mk {x : VR} {c2 : List Value} (h : VCellB B w x.2 c2) : EVar.R B w x (.string x.1 :: c2) := ⟨[.string x.1], c2, rfl, rfl, h⟩
end
end Go.Proofs.YtomecnncighkgaaGreatDoor
/- How long the literal of a value is at the most; no program in sight. -/
namespace Go.Proofs.YtomecnncighkgaaGreatDoor

mutual
/-- how many values and letters a value holds -/
def VT.bulk : VT → Nat
  | .mk _ _ _ s L ks => 5 + s.size + bulkL L + (ks.map fun k => k.size + 1).sum
def bulkL : List VT → Nat
  | [] => 0
  | t :: L => t.bulk + bulkL L
end
theorem bulkL_sum : ∀ L : List VT, bulkL L = (L.map VT.bulk).sum
  | [] => rfl
  | t :: L => by rw [bulkL, List.map_cons, List.sum_cons, bulkL_sum L]
theorem chF_le (c : UInt8) : (chF c).length ≤ 4 := by
  unfold chF
  repeat' split
  all_goals simp
theorem quote_le (s : List UInt8) : (quoteF s).length ≤ 4 * s.length + 2 := by
  unfold quoteF
  have h : ∀ l : List UInt8, (l.flatMap chF).length ≤ 4 * l.length := by
    intro l
    induction l with
    | nil => simp
    | cons c l ih => rw [List.flatMap_cons, List.length_append, List.length_cons]; have := chF_le c; omega
  have := h s
  rw [List.length_cons, List.length_append, List.length_singleton]
  omega
theorem dec_le : ∀ (n v : Nat), v < 10 ^ n → 0 < n → (Lib.decDigits v).length ≤ n
  | 0, _, _, h => by omega
  | n + 1, v, h, _ => by
    by_cases hv : v < 10
    · rw [Lib.decDigits, dif_pos hv]; simp
    · rw [dec_stp hv, List.length_append, List.length_singleton]
      have hn : 0 < n := by
        rcases n with _ | n
        · simp at h; omega
        · omega
      have := dec_le n (v / 10) (by rw [Nat.pow_succ] at h; omega) hn
      omega
theorem itoa_le {n : Int} (h : -9007199254740992 ≤ n ∧ n ≤ 9007199254740992) : (Lib.itoa n).length ≤ 18 := by
  unfold Lib.itoa
  split
  · have := dec_le 17 n.natAbs (by omega) (by decide)
    simp
    omega
  · have := dec_le 17 n.toNat (by omega) (by decide)
    omega
theorem join_le : ∀ T : List (List UInt8), (joinT T).length ≤ (T.map fun l => l.length + 2).sum
  | [] => by simp [joinT]
  | [x] => by simp [joinT]
  | x :: y :: T => by
    rw [join_cons x (y :: T) (by simp)]
    have := join_le (y :: T)
    rw [List.map_cons, List.sum_cons, List.length_append, List.length_cons, List.length_cons]
    omega
theorem zip_le : ∀ (ks : List ByteArray) (T : List (List UInt8)), ((List.zipWith itemF ks T).map fun l => l.length + 2).sum ≤ (ks.map fun k => 6 * (k.size + 1)).sum + (T.map fun l => l.length + 2).sum
  | [], T => by simp
  | _ :: _, [] => by simp
  | k :: ks, x :: T => by
    have h1 := zip_le ks T
    have h2 := quote_le k.data.toList
    have h3 : k.data.toList.length = k.size := Array.length_toList
    have h4 : (itemF k x).length = (quoteF k.data.toList).length + (x.length + 2) := by
      unfold itemF
      rw [List.length_append, List.length_cons, List.length_cons]
    simp only [List.zipWith_cons_cons, List.map_cons, List.sum_cons, h4] at h1 ⊢
    omega
theorem sum_mul (ks : List ByteArray) : (ks.map fun k => 6 * (k.size + 1)).sum = 6 * (ks.map fun k => k.size + 1).sum := by
  induction ks with
  | nil => rfl
  | cons k ks ih => rw [List.map_cons, List.sum_cons, ih, List.map_cons, List.sum_cons]; omega
theorem lit_bulk : ∀ (n lv : Nat) (t : VT), t.depth ≤ n → checkF lv t = 0 → (litF t).length + 2 ≤ 6 * t.bulk
  | 0, _, t, h, _ => by have := depth_pos t; omega
  | n + 1, lv, t, hd, h => by
    obtain ⟨hn, hc⟩ := check_zero h
    obtain ⟨_, _, _, _, hi1, hi2, _⟩ := node_zero hn
    have hL : ((t.list.map litF).map fun l => l.length + 2).sum ≤ 6 * bulkL t.list := by
      have hdl := depth_list t
      have key : ∀ L : List VT, (∀ x ∈ L, x.depth ≤ n ∧ checkF (lv + 1) x = 0) → ((L.map litF).map fun l => l.length + 2).sum ≤ 6 * bulkL L := by
        intro L
        induction L with
        | nil => intro _; simp [bulkL]
        | cons x L ih =>
          intro hx
          have h1 := ih fun y hy => hx y (List.mem_cons_of_mem _ hy)
          have h2 := lit_bulk n (lv + 1) x (hx x (List.mem_cons_self ..)).1 (hx x (List.mem_cons_self ..)).2
          simp only [List.map_cons, List.sum_cons, bulkL] at h1 ⊢
          omega
      exact key _ fun x hx => ⟨by have := depthL_mem hx; omega, hc x hx⟩
    have hb : t.bulk = 5 + t.str.size + bulkL t.list + (t.keys.map fun k => k.size + 1).sum := by cases t; rw [VT.bulk]; rfl
    have hss : t.str.data.toList.length = t.str.size := Array.length_toList
    rw [litF_eqn, hb]
    have hi := itoa_le ⟨hi1, hi2⟩
    have hq := quote_le t.str.data.toList
    have hj1 := join_le (t.list.map litF)
    have hj2 := join_le (List.zipWith itemF t.keys (t.list.map litF))
    have hz := zip_le t.keys (t.list.map litF)
    rw [sum_mul] at hz
    (repeat' split) <;> simp <;> omega
theorem lit_upto {t : VT} (h : validF t = 0) : (litF t).length ≤ 6 * t.bulk := by
  have := lit_bulk _ 1 t (Nat.le_refl _) h
  omega
end Go.Proofs.YtomecnncighkgaaGreatDoor
/- An argument that is a value, or a list of variables, opened with what the form says of its size. -/
namespace Go.Proofs.YtomecnncighkgaaGreatDoor
open Go.ChangeShapes Go.WideShapes Go.Deep Go.RowKit

section
variable {H : Type} {enc : TypeId × Value → H} {P : Program} {w : World}

theorem weightsAll_inV {e : TypeId} : ∀ {l : List (DataW H)} {d : DataW H}, d ∈ l → ∀ n ∈ d.weights P e, n ∈ DataW.weightsAll P e l
  | d' :: r, d, hd, n, hn => by
    simp only [DataW.weightsAll, List.mem_append]
    rcases List.mem_cons.1 hd with rfl | h
    · exact Or.inl hn
    · exact Or.inr (weightsAll_inV h n hn)
/-- the form's bound on what is handed over -/
abbrev Reach (P : Program) (t : TypeId) (d : DataW H) : Prop := ∀ k ∈ d.weights P t, k ≤ reachBytes

theorem field_at2 {fs : Array Field} {n : Nat} {cs : List Value} {xs : List (DataW H × List MemPlace)} {i t o c : Nat} (hl : xs.length = fs.size)
    (hf : ∀ (i : Nat) (f : Field), fs[i]? = some f → DataW.trod enc P w 0 (fun _ => true) true n f.type ((cs.drop f.offset).take (P.cellsOf f.type)) = xs[i]?)
    (hfd : (fs[i]?).map (fun f => (f.type, f.offset)) = some (t, o)) (ht : P.cellsOf t = c) :
    ∃ x, xs[i]? = some x ∧ (fs.toList.map (·.type))[i]? = some t ∧ DataW.trod enc P w 0 (fun _ => true) true n t ((cs.drop o).take c) = some x := by
  cases hfi : fs[i]? with
  | none => rw [hfi] at hfd; cases hfd
  | some f =>
    rw [hfi] at hfd
    simp only [Option.map_some, Option.some.injEq, Prod.mk.injEq] at hfd
    have h1 := hf i f hfi
    rw [hfd.1, hfd.2, ht] at h1
    have hi : i < xs.length := by rw [hl]; exact (Array.getElem?_eq_some_iff.1 hfi).1
    refine ⟨xs[i], List.getElem?_eq_getElem hi, ?_, h1.trans (List.getElem?_eq_getElem hi)⟩
    rw [List.getElem?_map, Array.getElem?_toList, hfi]
    simp [hfd.1]
theorem reach_field {tV : TypeId} {fs : Array Field} (he : P.underlying tV = some (.struct fs)) {xs : List (DataW H × List MemPlace)} {i t : Nat} {x : DataW H × List MemPlace} (hx : xs[i]? = some x) (ht : (fs.toList.map (·.type))[i]? = some t) (h : Reach P tV (.agg (xs.map (·.1)))) : Reach P t x.1 := fun k hk => h k (by
  simp only [DataW.weights, he]
  exact DataW.weights_mem_each ht (by rw [List.getElem?_map, hx]; rfl) k hk)
theorem strs_reachV {t : TypeId} (ht : P.underlying t = some (.slice 9)) (h9 : P.underlying 9 = some .string) (hc : P.cellsOf 9 = 1) {n : Nat} {cs : List Value} {x : DataW H × List MemPlace} (hf : DataW.trod enc P w 0 (fun _ => true) true n t cs = some x) (hw : Reach P t x.1) :
    ∀ ao len cap, cs = [.slice ao len cap] → len * P.bytesOf 9 ≤ reachBytes := by
  intro ao len cap hcs
  rcases open_strings ht h9 hc hf with ⟨hcs', _⟩ | ⟨a, len', cap', ss, hcs', _, hl, hm, hz, hx, _, _⟩
  · rw [hcs] at hcs'
    injection hcs' with hcs'
    injection hcs' with _ h2 _
    subst h2
    simp
  · rw [hcs] at hcs'
    injection hcs' with hcs'
    injection hcs' with _ h2 _
    subst h2
    simp only [if_true] at hz
    have h1 := hw ((((ss.take len).map fun s => (DataW.lit (.string s.data.toList) : DataW H)).length + ((ss.drop len).map fun s => (DataW.lit (.string s.data.toList) : DataW H)).length) * P.bytesOf 9) (by rw [hx]; simp [DataW.weights, ht, strs])
    refine Nat.le_trans (Nat.mul_le_mul_right _ ?_) h1
    simp
    omega

/-- a slice of things of some cells, each read at less fuel, with what its data bear to it -/
theorem row_of2 {α : Type} {R : List Value → α → Prop} {G : DataW H → α → Prop} {sz : Nat} {t e : TypeId} (hC : P.cellsOf e = sz) (ht : P.underlying t = some (.slice e)) {n : Nat} {v : Value} {x : DataW H × List MemPlace} (hsz : 0 < sz)
    (hne : ∀ cs a, R cs a → cs.length = sz)
    (hel : ∀ (m : Nat) (cs : List Value) (y : DataW H × List MemPlace), m < n → DataW.trod enc P w 0 (fun _ => true) true m e cs = some y → ∃ a : α, R cs a ∧ G y.1 a)
    (h : DataW.trod enc P w 0 (fun _ => true) true n t [v] = some x) :
    ∃ L : List α, L.length ≤ 9223372036854775807 ∧ ((x.1 = .nil ∧ L = []) ∨ ∃ es rs, x.1 = .slice es rs ∧ es.length = L.length ∧ ∀ (i : Nat) (h1 : i < es.length) (h2 : i < L.length), G es[i] L[i]) ∧
      ((∃ ao cap, v = .slice ao 0 cap ∧ L = []) ∨ ∃ bl off cap, v = .slice (some ⟨bl, off, none⟩) L.length cap ∧ bl < w.heap.size ∧ L.length ≤ cap ∧
      ∀ k (hk : k < L.length), ∃ cs, (∀ j u, cs[j]? = some u → w.cell? ⟨bl, off + k * sz + j, none⟩ = some u) ∧ R cs L[k]) := by
  rcases DataW.trod_slice ht h with ⟨hcs, hx⟩ | ⟨a, len, cap, elems, rest, m, rfl, hcs, hx, _, hlc, hcm, hel2, hi, _, _⟩
  · injection hcs with hv
    exact ⟨[], by simp, .inl ⟨by rw [hx], rfl⟩, .inl ⟨none, 0, hv, rfl⟩⟩
  · injection hcs with hv
    subst hv
    have hml : len ≤ 9223372036854775807 := Nat.le_trans hlc hcm
    rw [hC] at hi
    obtain ⟨L, hLl, hL⟩ := list_ofV (R := fun i (q : α) => (∃ cs, (∀ j u, cs[j]? = some u → w.cell? ((a.add (i * sz)).add j) = some u) ∧ R cs q) ∧ ∀ y, elems[i]? = some y → G y.1 q) len (fun i him => by
      have h1 := hi i him
      rw [List.getElem?_eq_getElem (by rw [hel2]; exact him)] at h1
      obtain ⟨cs', hc, ht'⟩ := Option.bind_eq_some_iff.1 h1
      obtain ⟨y, hy, hyF⟩ := hel m cs' _ (Nat.lt_succ_self _) ht'
      obtain ⟨_, hcl, hat⟩ := World.cells?_some hc
      refine ⟨y, ⟨cs', fun j u hj => ?_, hy⟩, fun z hz => ?_⟩
      · have hjl := (List.getElem?_eq_some_iff.1 hj).1
        rw [hne cs' y hy] at hjl
        rw [hat j hjl, hj]
      · rw [List.getElem?_eq_getElem (by rw [hel2]; exact him)] at hz
        obtain rfl := Option.some.inj hz
        exact hyF)
    refine ⟨L, by rw [hLl]; exact hml, .inr ⟨elems.map (·.1), rest.map (·.1), by rw [hx], by rw [List.length_map, hel2, hLl], fun i h1 h2 => ?_⟩, ?_⟩
    · rw [List.length_map] at h1
      rw [List.getElem_map]
      exact (hL i h2).2 elems[i] (List.getElem?_eq_getElem h1)
    by_cases h0 : len = 0
    · subst h0
      exact .inl ⟨_, _, rfl, List.length_eq_zero_iff.1 hLl⟩
    · obtain ⟨b, off, sp⟩ := a
      obtain ⟨⟨cs, hc0, hr0⟩, _⟩ := hL 0 (by omega)
      have hl6 := hne _ _ hr0
      have hq := hc0 0 (cs[0]'(by omega)) (List.getElem?_eq_getElem _)
      rw [Nat.zero_mul, show ((⟨b, off, sp⟩ : Addr).add 0).add 0 = ⟨b, off, sp⟩ from rfl] at hq
      obtain ⟨rfl, hbl⟩ := place_of hq
      refine .inr ⟨b, off, cap, by rw [hLl], hbl, by rw [hLl]; exact hlc, fun k hk => ?_⟩
      obtain ⟨⟨cs2, h1, h2⟩, _⟩ := hL k hk
      refine ⟨cs2, fun j u hu => ?_, h2⟩
      have := h1 j u hu
      rw [Addr.add_lit, Addr.add_lit] at this
      exact this
theorem reach_row {α : Type} {L : List α} {es rs : List (DataW H)} {t e : TypeId} (ht : P.underlying t = some (.slice e)) (hl : es.length = L.length) (hr : Reach P t (.slice es rs)) : L.length * P.bytesOf e ≤ reachBytes ∧ ∀ d ∈ es, Reach P e d := by
  refine ⟨?_, fun d hd k hk => hr k ?_⟩
  · have h2 := hr ((es.length + rs.length) * P.bytesOf e) (by simp [DataW.weights, ht])
    exact Nat.le_trans (Nat.mul_le_mul_right _ (by omega)) h2
  · simp only [DataW.weights, ht, List.mem_cons, List.mem_append]
    exact Or.inr (Or.inl (weightsAll_inV hd k hk))
theorem bulk_sum {α : Type} {f : α → Nat} : ∀ {L : List α} {es : List (DataW H)}, es.length = L.length → (∀ (i : Nat) (h1 : i < es.length) (h2 : i < L.length), f L[i] ≤ Rows.uptoBulk es[i]) → (L.map f).sum ≤ Rows.uptoBulkAll es
  | [], [], _, _ => by simp
  | a :: L, d :: es, hl, h => by
    rw [List.map_cons, List.sum_cons, Rows.uptoBulkAll]
    have h0 := h 0 (by simp) (by simp)
    have h1 := bulk_sum (L := L) (es := es) (f := f) (by simpa using hl) fun i h1 h2 => h (i + 1) (by simpa using h1) (by simpa using h2)
    simp only [List.getElem_cons_zero] at h0
    omega
theorem getD_atV {ks : List ByteArray} {i : Nat} (h : i < ks.length) : ks.getD i ByteArray.empty = ks[i] := by
  rw [List.getD, List.getElem?_eq_getElem h]; rfl
theorem strs_bulk {t : TypeId} (ht : P.underlying t = some (.slice 9)) (h9 : P.underlying 9 = some .string) (hc : P.cellsOf 9 = 1) {n : Nat} {v : Value} {x : DataW H × List MemPlace} (hf : DataW.trod enc P w 0 (fun _ => true) true n t [v] = some x) {ks : List ByteArray} (hs : StrsAt w v ks) : (ks.map fun k => k.size + 1).sum ≤ Rows.uptoBulk x.1 := by
  obtain ⟨ao, cap, hkf⟩ := hs.form
  rcases open_strings ht h9 hc hf with ⟨hcs', _⟩ | ⟨a, len', cap', ss, hcs', _, hl, hm, hz, hx, hcell, _⟩
  · injection hcs' with hcs'
    rw [hkf] at hcs'
    injection hcs' with _ h2 _
    rw [List.length_eq_zero_iff.1 h2]
    simp
  · injection hcs' with hcs'
    subst hcs'
    injection hkf with e1 e2 e3
    subst e1 e2 e3
    simp only [if_true] at hz
    have hks : ks = ss.take ks.length := by
      refine List.ext_getElem (by simp; omega) fun i h1 h2 => ?_
      obtain ⟨b, o, e, _, hat⟩ := hs.at_ h1
      injection e with e
      subst e
      rw [getD_atV h1] at hat
      have h3 := hcell i (by omega)
      rw [Addr.add_lit, hat] at h3
      injection h3 with h3
      injection h3 with h3
      rw [h3]
      simp [List.getD, show i < ss.length by omega]
    rw [hx]
    simp only [Rows.uptoBulk, strs]
    have h4 := bulk_sum (H := H) (f := fun k : ByteArray => k.size + 1) (L := ks) (es := (ss.take ks.length).map fun s => DataW.lit (.string s.data.toList)) (by rw [List.length_map, ← hks]) (fun i h1 h2 => by
      rw [List.getElem_map]
      simp only [Rows.uptoBulk]
      rw [List.getElem_take]
      have : ks[i] = ss[i]'(by omega) := by
        have := List.getElem_of_eq hks h2
        rw [List.getElem_take] at this
        exact this
      rw [this]
      exact Nat.le_of_eq (congrArg (· + 1) (Array.length_toList (xs := (ss[i]'(by omega)).data)).symm))
    omega
/-- what a value and what is read of it bear to each other -/
def Reads (P : Program) (tV : TypeId) (d : DataW H) (t : VT) : Prop := (Reach P tV d → t.fit) ∧ t.bulk ≤ Rows.uptoBulk d
theorem bulk_six {ds : List (DataW H)} {d0 d1 d2 d3 d4 d5 : DataW H} (h0 : ds[0]? = some d0) (h1 : ds[1]? = some d1) (h2 : ds[2]? = some d2) (h3 : ds[3]? = some d3) (h4 : ds[4]? = some d4) (h5 : ds[5]? = some d5) :
    Rows.uptoBulk d0 + Rows.uptoBulk d1 + Rows.uptoBulk d2 + Rows.uptoBulk d3 + Rows.uptoBulk d4 + Rows.uptoBulk d5 ≤ Rows.uptoBulkAll ds := by
  rcases ds with _ | ⟨a, _ | ⟨b, _ | ⟨c, _ | ⟨d, _ | ⟨e, _ | ⟨f, r⟩⟩⟩⟩⟩⟩ <;> simp at h0 h1 h2 h3 h4 h5
  subst h0 h1 h2 h3 h4 h5
  simp only [Rows.uptoBulkAll]
  omega
theorem value_of2 {tV tL tK : TypeId} (hT : VTypes P tV tL tK) (bV : P.bytesOf tV = 88) (b9 : P.bytesOf 9 = 16) : ∀ (n : Nat) (cs : List Value) (x : DataW H × List MemPlace), DataW.trod enc P w 0 (fun _ => true) true n tV cs = some x → ∃ t : VT, (VCell w t cs ∧ t.wf) ∧ Reads P tV x.1 t := by
  obtain ⟨⟨fs, he, f0, f1, f2, f3, f4, f5⟩, ⟨cV, c3, c4, c9, cL, cK⟩, u3, u4, u9, uL, uK⟩ := hT
  intro n
  induction n using Nat.strongRecOn with
  | _ n ih =>
    intro cs x hx
    obtain ⟨xs, m, rfl, hxa, hlen, hxl, hf⟩ := DataW.trod_struct he hx
    rw [cV] at hlen
    obtain ⟨a, b, c, d, e, f, rfl⟩ := six_of hlen
    obtain ⟨x0, y0, _, g0⟩ := field_at2 hxl hf f0 c3
    obtain ⟨x1, y1, _, g1⟩ := field_at2 hxl hf f1 c4
    obtain ⟨x2, y2, _, g2⟩ := field_at2 hxl hf f2 c3
    obtain ⟨x3, y3, _, g3⟩ := field_at2 hxl hf f3 c9
    obtain ⟨x4, y4, z4, g4⟩ := field_at2 hxl hf f4 cL
    obtain ⟨x5, y5, z5, g5⟩ := field_at2 hxl hf f5 cK
    obtain ⟨k, e0, q0, w0⟩ := DataW.trod_int u3 g0
    obtain ⟨bv, e1, q1⟩ := DataW.trod_bool u4 g1
    obtain ⟨i, e2, q2, w2⟩ := DataW.trod_int u3 g2
    obtain ⟨s, e3, q3, w3⟩ := DataW.trod_string u9 g3
    obtain ⟨kv, ks, e5, hks, hkz, hkl⟩ := open_strsV uK u9 c9 g5
    obtain ⟨L, hLl, hLr, hL⟩ := row_of2 (R := fun cs (t : VT) => VCell w t cs ∧ t.wf) (G := Reads P tV) cV uL (by decide) (fun cs t h => vcell_len h.1) (fun m' cs y hm hy => ih m' (by omega) cs y hy) (show DataW.trod enc P w 0 (fun _ => true) true m tL [e] = some x4 from g4)
    have hkr := strs_reachV uK u9 c9 g5
    have hkb := fun h : StrsAt w f ks => strs_bulk uK u9 c9 (show DataW.trod enc P w 0 (fun _ => true) true m tK [f] = some x5 from g5) h
    simp at e0 e1 e2 e3 e5
    subst e0 e1 e2 e3 e5 q0 q1 q2 q3
    have hwl : ∀ t ∈ L, t.wf := fun t ht => by
      obtain ⟨j, hj, rfl⟩ := List.getElem_of_mem ht
      rcases hL with ⟨_, _, _, rfl⟩ | ⟨_, _, _, _, _, _, hr⟩
      · cases hj
      · obtain ⟨_, _, h⟩ := hr j hj
        exact h.2
    refine ⟨.mk k bv i s L ks, ⟨vcell_mk.2 ⟨e, f, rfl, hks, ?_⟩, ?_⟩, fun hr => ?_, ?_⟩
    · rcases hL with h | ⟨bl, off, cap, h1, h2, h3, h4⟩
      · exact .inl h
      · exact .inr ⟨bl, off, cap, h1, h2, h3, VRow.make fun j hj => by
          obtain ⟨cs, q1, q2, _⟩ := h4 j hj
          exact ⟨cs, q1, q2⟩⟩
    · rw [VT.wf, wfL_iff]
      exact ⟨wf_int w0, wf_int w2, w3, hLl, hkl, hkz, hwl⟩
    · rw [hxa] at hr
      have hr4 := reach_field he y4 z4 hr
      obtain ⟨ao, cap, hkf⟩ := hks.form
      have r3 := hkr (reach_field he y5 z5 hr) ao ks.length cap (by rw [← hkf]; rfl)
      have hb := reachBytes_lt
      rw [b9] at r3
      rw [VT.fit, fitL_iff]
      rcases hLr with ⟨_, rfl⟩ | ⟨es, rs, h1, h2, h3⟩
      · exact ⟨by simp, by omega, fun t ht => by cases ht⟩
      · rw [h1] at hr4
        obtain ⟨r1, r2⟩ := reach_row uL h2 hr4
        rw [bV] at r1
        refine ⟨by omega, by omega, fun t ht => ?_⟩
        obtain ⟨j, hj, rfl⟩ := List.getElem_of_mem ht
        exact (h3 j (by omega) hj).1 (r2 _ (List.getElem_mem _))
    · rw [hxa, VT.bulk, Rows.uptoBulk]
      have h6 := bulk_six (ds := xs.map (·.1)) (by rw [List.getElem?_map, y0]; rfl) (by rw [List.getElem?_map, y1]; rfl) (by rw [List.getElem?_map, y2]; rfl) (by rw [List.getElem?_map, y3]; rfl) (by rw [List.getElem?_map, y4]; rfl) (by rw [List.getElem?_map, y5]; rfl)
      have k0 : Rows.uptoBulk (DataW.lit (H := H) (.int .i64 k)) = 1 := by simp [Rows.uptoBulk]
      have k1 : Rows.uptoBulk (DataW.lit (H := H) (.bool bv)) = 1 := by simp [Rows.uptoBulk]
      have k2 : Rows.uptoBulk (DataW.lit (H := H) (.int .i64 i)) = 1 := by simp [Rows.uptoBulk]
      have k3 : Rows.uptoBulk (DataW.lit (H := H) (.string s.data.toList)) = s.size + 1 := by rw [Rows.uptoBulk, Array.length_toList]; rfl
      dsimp only at h6
      rw [k0, k1, k2, k3] at h6
      have k5 := hkb hks
      have k4 : bulkL L ≤ Rows.uptoBulk x4.1 := by
        rw [bulkL_sum]
        rcases hLr with ⟨_, rfl⟩ | ⟨es, rs, h1, h2, h3⟩
        · simp
        · rw [h1, Rows.uptoBulk]
          have := bulk_sum (f := VT.bulk) h2 fun i h1 h2 => (h3 i h1 h2).2
          omega
      omega
theorem seven_of {l : List Value} (h : l.length = 7) : ∃ a b c d e f g, l = [a, b, c, d, e, f, g] := by
  match l, h with
  | [a, b, c, d, e, f, g], _ => exact ⟨a, b, c, d, e, f, g, rfl⟩
/-- what the program's table says of the type of variables -/
structure VarTypes (P : Program) (tR tV : TypeId) : Prop where
  st : ∃ fs, P.underlying tR = some (.struct fs) ∧ (fs[0]?).map (fun f => (f.type, f.offset)) = some (9, 0) ∧ (fs[1]?).map (fun f => (f.type, f.offset)) = some (tV, 1)
  c : P.cellsOf tR = 7
theorem evar_len {B : Nat → Prop} {x : VR} {cs : List Value} (h : EVar.R B w x cs) : cs.length = 7 := EVar.len h
theorem vars_of2 {tR tV tL tK tS : TypeId} (hT : VTypes P tV tL tK) (hR : VarTypes P tR tV) (uS : P.underlying tS = some (.slice tR)) (bV : P.bytesOf tV = 88) (b9 : P.bytesOf 9 = 16) {n : Nat} {v : Value} {x : DataW H × List MemPlace} (h : DataW.trod enc P w 0 (fun _ => true) true n tS [v] = some x) :
    ∃ L : List VR, EVar.Row (fun b => b < w.heap.size) w L v ∧ L.length ≤ 9223372036854775807 ∧ (∀ q ∈ L, q.1.size ≤ 9223372036854775807) ∧ (∀ q ∈ L, q.2.wf) ∧ (Reach P tS x.1 → L.length * P.bytesOf tR ≤ reachBytes ∧ ∀ q ∈ L, q.2.fit) := by
  have hT' := hT
  obtain ⟨⟨fs, he, f0, f1⟩, cR⟩ := hR
  obtain ⟨_, ⟨cV, c3, c4, c9, cL, cK⟩, u3, u4, u9, uL, uK⟩ := hT'
  obtain ⟨L, hLl, hLr, hL⟩ := row_of2 (enc := enc) (R := fun cs (q : VR) => EVar.R (fun b => b < w.heap.size) w q cs ∧ q.1.size ≤ 9223372036854775807 ∧ q.2.wf) (G := fun d (q : VR) => Reach P tR d → q.2.fit) cR uS (by decide) (fun cs q h => evar_len h.1) (fun m cs y _ hy => by
    obtain ⟨xs, m', rfl, hxa, hlen, hxl, hf⟩ := DataW.trod_struct he hy
    rw [cR] at hlen
    obtain ⟨a, b, c, d, e, f, g, rfl⟩ := seven_of hlen
    obtain ⟨x0, _, _, g0⟩ := field_at2 hxl hf f0 c9
    obtain ⟨x1, y1, z1, g1⟩ := field_at2 hxl hf f1 cV
    obtain ⟨s, e0, _, w0⟩ := DataW.trod_string u9 g0
    obtain ⟨t, ⟨hc, hw⟩, hfit, _⟩ := value_of2 hT bV b9 m' [b, c, d, e, f, g] x1 g1
    simp at e0
    subst e0
    exact ⟨(s, t), ⟨evar_mk (VCell.low _ _ hc), w0, hw⟩, fun hr => hfit (by rw [hxa] at hr; exact reach_field he y1 z1 hr)⟩) h
  have hall : ∀ q ∈ L, q.1.size ≤ 9223372036854775807 ∧ q.2.wf := fun q hq => by
    obtain ⟨j, hj, rfl⟩ := List.getElem_of_mem hq
    rcases hL with ⟨_, _, _, rfl⟩ | ⟨_, _, _, _, _, _, hr⟩
    · cases hj
    · obtain ⟨_, _, h⟩ := hr j hj
      exact h.2
  refine ⟨L, ?_, hLl, fun q hq => (hall q hq).1, fun q hq => (hall q hq).2, fun hr => ?_⟩
  · rcases hL with h | ⟨bl, off, cap, h1, h2, h3, h4⟩
    · exact .inl h
    · exact .inr ⟨bl, off, cap, h1, h2, h2, h3, fun k hk => by
        obtain ⟨cs, q1, q2, _⟩ := h4 k hk
        exact ⟨cs, q1, q2⟩⟩
  · rcases hLr with ⟨_, rfl⟩ | ⟨es, rs, h1, h2, h3⟩
    · exact ⟨by simp, fun t ht => by cases ht⟩
    · rw [h1] at hr
      obtain ⟨r1, r2⟩ := reach_row uS h2 hr
      refine ⟨r1, fun q hq => ?_⟩
      obtain ⟨j, hj, rfl⟩ := List.getElem_of_mem hq
      exact h3 j (by omega) hj (r2 _ (List.getElem_mem _))
end
end Go.Proofs.YtomecnncighkgaaGreatDoor
/- A valid value is of sizes that any memory has; maps are valid; no program in sight. -/
namespace Go.Proofs.YtomecnncighkgaaGreatDoor

theorem keys_ok {lv : Nat} {t : VT} (h : nodeF lv t = 0) : ∀ x ∈ t.keys, x.size ≤ 9223372036854775807 := by
  obtain ⟨_, _, _, hp, _, _, _, _, _, hy⟩ := node_zero h
  intro x hx
  by_cases hk : t.kind = 5
  · have hkd := hy hk
    unfold keyedF at hkd
    rw [Bool.and_eq_true] at hkd
    have h2 := hkd.2
    unfold keysTo at h2
    rw [List.all_eq_true] at h2
    obtain ⟨i, hi, rfl⟩ := List.getElem_of_mem hx
    have h3 := h2 i (List.mem_range.2 hi)
    rw [Bool.and_eq_true] at h3
    have h4 := h3.1
    rw [List.getD, List.getElem?_eq_getElem hi] at h4
    unfold keyOk at h4
    rw [Bool.and_eq_true] at h4
    have h5 : t.keys[i].size ≤ 64 := of_decide_eq_true h4.2
    omega
  · have := (plain_parts hp).2.2.2.2 hk
    rw [this] at hx
    cases hx
theorem wf_check : ∀ (n lv : Nat) (t : VT), t.depth ≤ n → checkF lv t = 0 → t.wf
  | 0, _, t, h, _ => by have := depth_pos t; omega
  | n + 1, lv, t, hd, h => by
    obtain ⟨hn, hc⟩ := check_zero h
    have hko := keys_ok hn
    obtain ⟨_, k0, k5, _, i0, i1, hs, h1, h2, _⟩ := node_zero hn
    have hd2 := depth_list t
    cases t with
    | mk k b i s L ks =>
      have k0 : 0 ≤ k := k0
      have k5 : k ≤ 5 := k5
      have i0 : -9007199254740992 ≤ i := i0
      have i1 : i ≤ 9007199254740992 := i1
      have hs : s.size ≤ 4096 := hs
      have h1 : L.length ≤ 1024 := h1
      have h2 : ks.length ≤ 1024 := h2
      have hd2 : depthL L < _ := hd2
      rw [VT.wf, wfL_iff]
      refine ⟨⟨by omega, by omega⟩, ⟨by omega, by omega⟩, by omega, by omega, by omega, hko, fun x hx => wf_check n (lv + 1) x ?_ (hc x hx)⟩
      have := depthL_mem hx
      omega
theorem wf_valid {t : VT} (h : validF t = 0) : t.wf := wf_check _ 1 t (Nat.le_refl _) h
theorem zero_valid : validF VT.zero = 0 := by decide +kernel
theorem mapF_valid (L : List VR) : validF (mapF L) = 0 := by
  by_cases h : mapE L = 0
  · exact map_valid h
  · unfold mapF
    rw [if_neg h]
    exact zero_valid
theorem mapF_wf (L : List VR) : (mapF L).wf := wf_valid (mapF_valid L)
end Go.Proofs.YtomecnncighkgaaGreatDoor
