/- How long the literal of a value is at the most; no program in sight. -/
import Derived.Test.YtbndgmbjfgmdnaaGreatDoorVa2
import Derived.Test.YtbndgmbjfgmdnaaGreatDoorRows
import Derived.SizedLaws
namespace Go.Proofs.YtbndgmbjfgmdnaaGreatDoor

mutual
/-- how many values and letters a value holds -/
def VT.bulk : VT → Nat
  | .mk _ _ _ s L ks => 5 + s.size + bulkL L + (ks.map fun k => k.size + 1).sum
def bulkL : List VT → Nat
  | [] => 0
  | t :: L => t.bulk + bulkL L
end
theorem bulkL_sum : ∀ L : List VT, bulkL L = (L.map VT.bulk).sum
  | [] => rfl
  | t :: L => by rw [bulkL, List.map_cons, List.sum_cons, bulkL_sum L]
theorem chF_le (c : UInt8) : (chF c).length ≤ 4 := by
  unfold chF
  repeat' split
  all_goals simp
theorem quote_le (s : List UInt8) : (quoteF s).length ≤ 4 * s.length + 2 := by
  unfold quoteF
  have h : ∀ l : List UInt8, (l.flatMap chF).length ≤ 4 * l.length := by
    intro l
    induction l with
    | nil => simp
    | cons c l ih => rw [List.flatMap_cons, List.length_append, List.length_cons]; have := chF_le c; omega
  have := h s
  rw [List.length_cons, List.length_append, List.length_singleton]
  omega
theorem dec_le : ∀ (n v : Nat), v < 10 ^ n → 0 < n → (Lib.decDigits v).length ≤ n
  | 0, _, _, h => by omega
  | n + 1, v, h, _ => by
    by_cases hv : v < 10
    · rw [Lib.decDigits, dif_pos hv]; simp
    · rw [dec_stp hv, List.length_append, List.length_singleton]
      have hn : 0 < n := by
        rcases n with _ | n
        · simp at h; omega
        · omega
      have := dec_le n (v / 10) (by rw [Nat.pow_succ] at h; omega) hn
      omega
theorem itoa_le {n : Int} (h : -9007199254740992 ≤ n ∧ n ≤ 9007199254740992) : (Lib.itoa n).length ≤ 18 := by
  unfold Lib.itoa
  split
  · have := dec_le 17 n.natAbs (by omega) (by decide)
    simp
    omega
  · have := dec_le 17 n.toNat (by omega) (by decide)
    omega
theorem join_le : ∀ T : List (List UInt8), (joinT T).length ≤ (T.map fun l => l.length + 2).sum
  | [] => by simp [joinT]
  | [x] => by simp [joinT]
  | x :: y :: T => by
    rw [join_cons x (y :: T) (by simp)]
    have := join_le (y :: T)
    rw [List.map_cons, List.sum_cons, List.length_append, List.length_cons, List.length_cons]
    omega
theorem zip_le : ∀ (ks : List ByteArray) (T : List (List UInt8)), ((List.zipWith itemF ks T).map fun l => l.length + 2).sum ≤ (ks.map fun k => 6 * (k.size + 1)).sum + (T.map fun l => l.length + 2).sum
  | [], T => by simp
  | _ :: _, [] => by simp
  | k :: ks, x :: T => by
    have h1 := zip_le ks T
    have h2 := quote_le k.data.toList
    have h3 : k.data.toList.length = k.size := Array.length_toList
    have h4 : (itemF k x).length = (quoteF k.data.toList).length + (x.length + 2) := by
      unfold itemF
      rw [List.length_append, List.length_cons, List.length_cons]
    simp only [List.zipWith_cons_cons, List.map_cons, List.sum_cons, h4] at h1 ⊢
    omega
theorem sum_mul (ks : List ByteArray) : (ks.map fun k => 6 * (k.size + 1)).sum = 6 * (ks.map fun k => k.size + 1).sum := by
  induction ks with
  | nil => rfl
  | cons k ks ih => rw [List.map_cons, List.sum_cons, ih, List.map_cons, List.sum_cons]; omega
theorem lit_bulk : ∀ (n lv : Nat) (t : VT), t.depth ≤ n → checkF lv t = 0 → (litF t).length + 2 ≤ 6 * t.bulk
  | 0, _, t, h, _ => by have := depth_pos t; omega
  | n + 1, lv, t, hd, h => by
    obtain ⟨hn, hc⟩ := check_zero h
    obtain ⟨_, _, _, _, hi1, hi2, _⟩ := node_zero hn
    have hL : ((t.list.map litF).map fun l => l.length + 2).sum ≤ 6 * bulkL t.list := by
      have hdl := depth_list t
      have key : ∀ L : List VT, (∀ x ∈ L, x.depth ≤ n ∧ checkF (lv + 1) x = 0) → ((L.map litF).map fun l => l.length + 2).sum ≤ 6 * bulkL L := by
        intro L
        induction L with
        | nil => intro _; simp [bulkL]
        | cons x L ih =>
          intro hx
          have h1 := ih fun y hy => hx y (List.mem_cons_of_mem _ hy)
          have h2 := lit_bulk n (lv + 1) x (hx x (List.mem_cons_self ..)).1 (hx x (List.mem_cons_self ..)).2
          simp only [List.map_cons, List.sum_cons, bulkL] at h1 ⊢
          omega
      exact key _ fun x hx => ⟨by have := depthL_mem hx; omega, hc x hx⟩
    have hb : t.bulk = 5 + t.str.size + bulkL t.list + (t.keys.map fun k => k.size + 1).sum := by cases t; rw [VT.bulk]; rfl
    have hss : t.str.data.toList.length = t.str.size := Array.length_toList
    rw [litF_eqn, hb]
    have hi := itoa_le ⟨hi1, hi2⟩
    have hq := quote_le t.str.data.toList
    have hj1 := join_le (t.list.map litF)
    have hj2 := join_le (List.zipWith itemF t.keys (t.list.map litF))
    have hz := zip_le t.keys (t.list.map litF)
    rw [sum_mul] at hz
    (repeat' split) <;> simp <;> omega
theorem lit_upto {t : VT} (h : validF t = 0) : (litF t).length ≤ 6 * t.bulk := by
  have := lit_bulk _ 1 t (Nat.le_refl _) h
  omega
end Go.Proofs.YtbndgmbjfgmdnaaGreatDoor
/- An argument that is a value, or a list of variables, opened with what the form says of its size. -/
namespace Go.Proofs.YtbndgmbjfgmdnaaGreatDoor
open Go.ChangeShapes Go.WideShapes Go.Deep Go.RowKit

section
variable {H : Type} {enc : TypeId × Value → H} {P : Program} {w : World}

theorem weightsAll_inV {e : TypeId} : ∀ {l : List (DataW H)} {d : DataW H}, d ∈ l → ∀ n ∈ d.weights P e, n ∈ DataW.weightsAll P e l
  | d' :: r, d, hd, n, hn => by
    simp only [DataW.weightsAll, List.mem_append]
    rcases List.mem_cons.1 hd with rfl | h
    · exact Or.inl hn
    · exact Or.inr (weightsAll_inV h n hn)
/-- the form's bound on what is handed over -/
abbrev Reach (P : Program) (t : TypeId) (d : DataW H) : Prop := ∀ k ∈ d.weights P t, k ≤ reachBytes

theorem field_at2 {fs : Array Field} {n : Nat} {cs : List Value} {xs : List (DataW H × List MemPlace)} {i t o c : Nat} (hl : xs.length = fs.size)
    (hf : ∀ (i : Nat) (f : Field), fs[i]? = some f → DataW.trod enc P w 0 (fun _ => true) true n f.type ((cs.drop f.offset).take (P.cellsOf f.type)) = xs[i]?)
    (hfd : (fs[i]?).map (fun f => (f.type, f.offset)) = some (t, o)) (ht : P.cellsOf t = c) :
    ∃ x, xs[i]? = some x ∧ (fs.toList.map (·.type))[i]? = some t ∧ DataW.trod enc P w 0 (fun _ => true) true n t ((cs.drop o).take c) = some x := by
  cases hfi : fs[i]? with
  | none => rw [hfi] at hfd; cases hfd
  | some f =>
    rw [hfi] at hfd
    simp only [Option.map_some, Option.some.injEq, Prod.mk.injEq] at hfd
    have h1 := hf i f hfi
    rw [hfd.1, hfd.2, ht] at h1
    have hi : i < xs.length := by rw [hl]; exact (Array.getElem?_eq_some_iff.1 hfi).1
    refine ⟨xs[i], List.getElem?_eq_getElem hi, ?_, h1.trans (List.getElem?_eq_getElem hi)⟩
    rw [List.getElem?_map, Array.getElem?_toList, hfi]
    simp [hfd.1]
theorem reach_field {tV : TypeId} {fs : Array Field} (he : P.underlying tV = some (.struct fs)) {xs : List (DataW H × List MemPlace)} {i t : Nat} {x : DataW H × List MemPlace} (hx : xs[i]? = some x) (ht : (fs.toList.map (·.type))[i]? = some t) (h : Reach P tV (.agg (xs.map (·.1)))) : Reach P t x.1 := fun k hk => h k (by
  simp only [DataW.weights, he]
  exact DataW.weights_mem_each ht (by rw [List.getElem?_map, hx]; rfl) k hk)
theorem strs_reachV {t : TypeId} (ht : P.underlying t = some (.slice 9)) (h9 : P.underlying 9 = some .string) (hc : P.cellsOf 9 = 1) {n : Nat} {cs : List Value} {x : DataW H × List MemPlace} (hf : DataW.trod enc P w 0 (fun _ => true) true n t cs = some x) (hw : Reach P t x.1) :
    ∀ ao len cap, cs = [.slice ao len cap] → len * P.bytesOf 9 ≤ reachBytes := by
  intro ao len cap hcs
  rcases open_strings ht h9 hc hf with ⟨hcs', _⟩ | ⟨a, len', cap', ss, hcs', _, hl, hm, hz, hx, _, _⟩
  · rw [hcs] at hcs'
    injection hcs' with hcs'
    injection hcs' with _ h2 _
    subst h2
    simp
  · rw [hcs] at hcs'
    injection hcs' with hcs'
    injection hcs' with _ h2 _
    subst h2
    simp only [if_true] at hz
    have h1 := hw ((((ss.take len).map fun s => (DataW.lit (.string s.data.toList) : DataW H)).length + ((ss.drop len).map fun s => (DataW.lit (.string s.data.toList) : DataW H)).length) * P.bytesOf 9) (by rw [hx]; simp [DataW.weights, ht, strs])
    refine Nat.le_trans (Nat.mul_le_mul_right _ ?_) h1
    simp
    omega

/-- a slice of things of some cells, each read at less fuel, with what its data bear to it -/
theorem row_of2 {α : Type} {R : List Value → α → Prop} {G : DataW H → α → Prop} {sz : Nat} {t e : TypeId} (hC : P.cellsOf e = sz) (ht : P.underlying t = some (.slice e)) {n : Nat} {v : Value} {x : DataW H × List MemPlace} (hsz : 0 < sz)
    (hne : ∀ cs a, R cs a → cs.length = sz)
    (hel : ∀ (m : Nat) (cs : List Value) (y : DataW H × List MemPlace), m < n → DataW.trod enc P w 0 (fun _ => true) true m e cs = some y → ∃ a : α, R cs a ∧ G y.1 a)
    (h : DataW.trod enc P w 0 (fun _ => true) true n t [v] = some x) :
    ∃ L : List α, L.length ≤ 9223372036854775807 ∧ ((x.1 = .nil ∧ L = []) ∨ ∃ es rs, x.1 = .slice es rs ∧ es.length = L.length ∧ ∀ (i : Nat) (h1 : i < es.length) (h2 : i < L.length), G es[i] L[i]) ∧
      ((∃ ao cap, v = .slice ao 0 cap ∧ L = []) ∨ ∃ bl off cap, v = .slice (some ⟨bl, off, none⟩) L.length cap ∧ bl < w.heap.size ∧ L.length ≤ cap ∧
      ∀ k (hk : k < L.length), ∃ cs, (∀ j u, cs[j]? = some u → w.cell? ⟨bl, off + k * sz + j, none⟩ = some u) ∧ R cs L[k]) := by
  rcases DataW.trod_slice ht h with ⟨hcs, hx⟩ | ⟨a, len, cap, elems, rest, m, rfl, hcs, hx, _, hlc, hcm, hel2, hi, _, _⟩
  · injection hcs with hv
    exact ⟨[], by simp, .inl ⟨by rw [hx], rfl⟩, .inl ⟨none, 0, hv, rfl⟩⟩
  · injection hcs with hv
    subst hv
    have hml : len ≤ 9223372036854775807 := Nat.le_trans hlc hcm
    rw [hC] at hi
    obtain ⟨L, hLl, hL⟩ := list_ofV (R := fun i (q : α) => (∃ cs, (∀ j u, cs[j]? = some u → w.cell? ((a.add (i * sz)).add j) = some u) ∧ R cs q) ∧ ∀ y, elems[i]? = some y → G y.1 q) len (fun i him => by
      have h1 := hi i him
      rw [List.getElem?_eq_getElem (by rw [hel2]; exact him)] at h1
      obtain ⟨cs', hc, ht'⟩ := Option.bind_eq_some_iff.1 h1
      obtain ⟨y, hy, hyF⟩ := hel m cs' _ (Nat.lt_succ_self _) ht'
      obtain ⟨_, hcl, hat⟩ := World.cells?_some hc
      refine ⟨y, ⟨cs', fun j u hj => ?_, hy⟩, fun z hz => ?_⟩
      · have hjl := (List.getElem?_eq_some_iff.1 hj).1
        rw [hne cs' y hy] at hjl
        rw [hat j hjl, hj]
      · rw [List.getElem?_eq_getElem (by rw [hel2]; exact him)] at hz
        obtain rfl := Option.some.inj hz
        exact hyF)
    refine ⟨L, by rw [hLl]; exact hml, .inr ⟨elems.map (·.1), rest.map (·.1), by rw [hx], by rw [List.length_map, hel2, hLl], fun i h1 h2 => ?_⟩, ?_⟩
    · rw [List.length_map] at h1
      rw [List.getElem_map]
      exact (hL i h2).2 elems[i] (List.getElem?_eq_getElem h1)
    by_cases h0 : len = 0
    · subst h0
      exact .inl ⟨_, _, rfl, List.length_eq_zero_iff.1 hLl⟩
    · obtain ⟨b, off, sp⟩ := a
      obtain ⟨⟨cs, hc0, hr0⟩, _⟩ := hL 0 (by omega)
      have hl6 := hne _ _ hr0
      have hq := hc0 0 (cs[0]'(by omega)) (List.getElem?_eq_getElem _)
      rw [Nat.zero_mul, show ((⟨b, off, sp⟩ : Addr).add 0).add 0 = ⟨b, off, sp⟩ from rfl] at hq
      obtain ⟨rfl, hbl⟩ := place_of hq
      refine .inr ⟨b, off, cap, by rw [hLl], hbl, by rw [hLl]; exact hlc, fun k hk => ?_⟩
      obtain ⟨⟨cs2, h1, h2⟩, _⟩ := hL k hk
      refine ⟨cs2, fun j u hu => ?_, h2⟩
      have := h1 j u hu
      rw [Addr.add_lit, Addr.add_lit] at this
      exact this
theorem reach_row {α : Type} {L : List α} {es rs : List (DataW H)} {t e : TypeId} (ht : P.underlying t = some (.slice e)) (hl : es.length = L.length) (hr : Reach P t (.slice es rs)) : L.length * P.bytesOf e ≤ reachBytes ∧ ∀ d ∈ es, Reach P e d := by
  refine ⟨?_, fun d hd k hk => hr k ?_⟩
  · have h2 := hr ((es.length + rs.length) * P.bytesOf e) (by simp [DataW.weights, ht])
    exact Nat.le_trans (Nat.mul_le_mul_right _ (by omega)) h2
  · simp only [DataW.weights, ht, List.mem_cons, List.mem_append]
    exact Or.inr (Or.inl (weightsAll_inV hd k hk))
theorem bulk_sum {α : Type} {f : α → Nat} : ∀ {L : List α} {es : List (DataW H)}, es.length = L.length → (∀ (i : Nat) (h1 : i < es.length) (h2 : i < L.length), f L[i] ≤ Rows.uptoBulk es[i]) → (L.map f).sum ≤ Rows.uptoBulkAll es
  | [], [], _, _ => by simp
  | a :: L, d :: es, hl, h => by
    rw [List.map_cons, List.sum_cons, Rows.uptoBulkAll]
    have h0 := h 0 (by simp) (by simp)
    have h1 := bulk_sum (L := L) (es := es) (f := f) (by simpa using hl) fun i h1 h2 => h (i + 1) (by simpa using h1) (by simpa using h2)
    simp only [List.getElem_cons_zero] at h0
    omega
theorem getD_atV {ks : List ByteArray} {i : Nat} (h : i < ks.length) : ks.getD i ByteArray.empty = ks[i] := by
  rw [List.getD, List.getElem?_eq_getElem h]; rfl
theorem strs_bulk {t : TypeId} (ht : P.underlying t = some (.slice 9)) (h9 : P.underlying 9 = some .string) (hc : P.cellsOf 9 = 1) {n : Nat} {v : Value} {x : DataW H × List MemPlace} (hf : DataW.trod enc P w 0 (fun _ => true) true n t [v] = some x) {ks : List ByteArray} (hs : StrsAt w v ks) : (ks.map fun k => k.size + 1).sum ≤ Rows.uptoBulk x.1 := by
  obtain ⟨ao, cap, hkf⟩ := hs.form
  rcases open_strings ht h9 hc hf with ⟨hcs', _⟩ | ⟨a, len', cap', ss, hcs', _, hl, hm, hz, hx, hcell, _⟩
  · injection hcs' with hcs'
    rw [hkf] at hcs'
    injection hcs' with _ h2 _
    rw [List.length_eq_zero_iff.1 h2]
    simp
  · injection hcs' with hcs'
    subst hcs'
    injection hkf with e1 e2 e3
    subst e1 e2 e3
    simp only [if_true] at hz
    have hks : ks = ss.take ks.length := by
      refine List.ext_getElem (by simp; omega) fun i h1 h2 => ?_
      obtain ⟨b, o, e, _, hat⟩ := hs.at_ h1
      injection e with e
      subst e
      rw [getD_atV h1] at hat
      have h3 := hcell i (by omega)
      rw [Addr.add_lit, hat] at h3
      injection h3 with h3
      injection h3 with h3
      rw [h3]
      simp [List.getD, show i < ss.length by omega]
    rw [hx]
    simp only [Rows.uptoBulk, strs]
    have h4 := bulk_sum (H := H) (f := fun k : ByteArray => k.size + 1) (L := ks) (es := (ss.take ks.length).map fun s => DataW.lit (.string s.data.toList)) (by rw [List.length_map, ← hks]) (fun i h1 h2 => by
      rw [List.getElem_map]
      simp only [Rows.uptoBulk]
      rw [List.getElem_take]
      have : ks[i] = ss[i]'(by omega) := by
        have := List.getElem_of_eq hks h2
        rw [List.getElem_take] at this
        exact this
      rw [this]
      exact Nat.le_of_eq (congrArg (· + 1) (Array.length_toList (xs := (ss[i]'(by omega)).data)).symm))
    omega
/-- what a value and what is read of it bear to each other -/
def Reads (P : Program) (tV : TypeId) (d : DataW H) (t : VT) : Prop := (Reach P tV d → t.fit) ∧ t.bulk ≤ Rows.uptoBulk d
theorem bulk_six {ds : List (DataW H)} {d0 d1 d2 d3 d4 d5 : DataW H} (h0 : ds[0]? = some d0) (h1 : ds[1]? = some d1) (h2 : ds[2]? = some d2) (h3 : ds[3]? = some d3) (h4 : ds[4]? = some d4) (h5 : ds[5]? = some d5) :
    Rows.uptoBulk d0 + Rows.uptoBulk d1 + Rows.uptoBulk d2 + Rows.uptoBulk d3 + Rows.uptoBulk d4 + Rows.uptoBulk d5 ≤ Rows.uptoBulkAll ds := by
  rcases ds with _ | ⟨a, _ | ⟨b, _ | ⟨c, _ | ⟨d, _ | ⟨e, _ | ⟨f, r⟩⟩⟩⟩⟩⟩ <;> simp at h0 h1 h2 h3 h4 h5
  subst h0 h1 h2 h3 h4 h5
  simp only [Rows.uptoBulkAll]
  omega
theorem value_of2 {tV tL tK : TypeId} (hT : VTypes P tV tL tK) (bV : P.bytesOf tV = 88) (b9 : P.bytesOf 9 = 16) : ∀ (n : Nat) (cs : List Value) (x : DataW H × List MemPlace), DataW.trod enc P w 0 (fun _ => true) true n tV cs = some x → ∃ t : VT, (VCell w t cs ∧ t.wf) ∧ Reads P tV x.1 t := by
  obtain ⟨⟨fs, he, f0, f1, f2, f3, f4, f5⟩, ⟨cV, c3, c4, c9, cL, cK⟩, u3, u4, u9, uL, uK⟩ := hT
  intro n
  induction n using Nat.strongRecOn with
  | _ n ih =>
    intro cs x hx
    obtain ⟨xs, m, rfl, hxa, hlen, hxl, hf⟩ := DataW.trod_struct he hx
    rw [cV] at hlen
    obtain ⟨a, b, c, d, e, f, rfl⟩ := six_of hlen
    obtain ⟨x0, y0, _, g0⟩ := field_at2 hxl hf f0 c3
    obtain ⟨x1, y1, _, g1⟩ := field_at2 hxl hf f1 c4
    obtain ⟨x2, y2, _, g2⟩ := field_at2 hxl hf f2 c3
    obtain ⟨x3, y3, _, g3⟩ := field_at2 hxl hf f3 c9
    obtain ⟨x4, y4, z4, g4⟩ := field_at2 hxl hf f4 cL
    obtain ⟨x5, y5, z5, g5⟩ := field_at2 hxl hf f5 cK
    obtain ⟨k, e0, q0, w0⟩ := DataW.trod_int u3 g0
    obtain ⟨bv, e1, q1⟩ := DataW.trod_bool u4 g1
    obtain ⟨i, e2, q2, w2⟩ := DataW.trod_int u3 g2
    obtain ⟨s, e3, q3, w3⟩ := DataW.trod_string u9 g3
    obtain ⟨kv, ks, e5, hks, hkz, hkl⟩ := open_strsV uK u9 c9 g5
    obtain ⟨L, hLl, hLr, hL⟩ := row_of2 (R := fun cs (t : VT) => VCell w t cs ∧ t.wf) (G := Reads P tV) cV uL (by decide) (fun cs t h => vcell_len h.1) (fun m' cs y hm hy => ih m' (by omega) cs y hy) (show DataW.trod enc P w 0 (fun _ => true) true m tL [e] = some x4 from g4)
    have hkr := strs_reachV uK u9 c9 g5
    have hkb := fun h : StrsAt w f ks => strs_bulk uK u9 c9 (show DataW.trod enc P w 0 (fun _ => true) true m tK [f] = some x5 from g5) h
    simp at e0 e1 e2 e3 e5
    subst e0 e1 e2 e3 e5 q0 q1 q2 q3
    have hwl : ∀ t ∈ L, t.wf := fun t ht => by
      obtain ⟨j, hj, rfl⟩ := List.getElem_of_mem ht
      rcases hL with ⟨_, _, _, rfl⟩ | ⟨_, _, _, _, _, _, hr⟩
      · cases hj
      · obtain ⟨_, _, h⟩ := hr j hj
        exact h.2
    refine ⟨.mk k bv i s L ks, ⟨vcell_mk.2 ⟨e, f, rfl, hks, ?_⟩, ?_⟩, fun hr => ?_, ?_⟩
    · rcases hL with h | ⟨bl, off, cap, h1, h2, h3, h4⟩
      · exact .inl h
      · exact .inr ⟨bl, off, cap, h1, h2, h3, VRow.make fun j hj => by
          obtain ⟨cs, q1, q2, _⟩ := h4 j hj
          exact ⟨cs, q1, q2⟩⟩
    · rw [VT.wf, wfL_iff]
      exact ⟨wf_int w0, wf_int w2, w3, hLl, hkl, hkz, hwl⟩
    · rw [hxa] at hr
      have hr4 := reach_field he y4 z4 hr
      obtain ⟨ao, cap, hkf⟩ := hks.form
      have r3 := hkr (reach_field he y5 z5 hr) ao ks.length cap (by rw [← hkf]; rfl)
      have hb := reachBytes_lt
      rw [b9] at r3
      rw [VT.fit, fitL_iff]
      rcases hLr with ⟨_, rfl⟩ | ⟨es, rs, h1, h2, h3⟩
      · exact ⟨by simp, by omega, fun t ht => by cases ht⟩
      · rw [h1] at hr4
        obtain ⟨r1, r2⟩ := reach_row uL h2 hr4
        rw [bV] at r1
        refine ⟨by omega, by omega, fun t ht => ?_⟩
        obtain ⟨j, hj, rfl⟩ := List.getElem_of_mem ht
        exact (h3 j (by omega) hj).1 (r2 _ (List.getElem_mem _))
    · rw [hxa, VT.bulk, Rows.uptoBulk]
      have h6 := bulk_six (ds := xs.map (·.1)) (by rw [List.getElem?_map, y0]; rfl) (by rw [List.getElem?_map, y1]; rfl) (by rw [List.getElem?_map, y2]; rfl) (by rw [List.getElem?_map, y3]; rfl) (by rw [List.getElem?_map, y4]; rfl) (by rw [List.getElem?_map, y5]; rfl)
      have k0 : Rows.uptoBulk (DataW.lit (H := H) (.int .i64 k)) = 1 := by simp [Rows.uptoBulk]
      have k1 : Rows.uptoBulk (DataW.lit (H := H) (.bool bv)) = 1 := by simp [Rows.uptoBulk]
      have k2 : Rows.uptoBulk (DataW.lit (H := H) (.int .i64 i)) = 1 := by simp [Rows.uptoBulk]
      have k3 : Rows.uptoBulk (DataW.lit (H := H) (.string s.data.toList)) = s.size + 1 := by rw [Rows.uptoBulk, Array.length_toList]; rfl
      dsimp only at h6
      rw [k0, k1, k2, k3] at h6
      have k5 := hkb hks
      have k4 : bulkL L ≤ Rows.uptoBulk x4.1 := by
        rw [bulkL_sum]
        rcases hLr with ⟨_, rfl⟩ | ⟨es, rs, h1, h2, h3⟩
        · simp
        · rw [h1, Rows.uptoBulk]
          have := bulk_sum (f := VT.bulk) h2 fun i h1 h2 => (h3 i h1 h2).2
          omega
      omega
theorem seven_of {l : List Value} (h : l.length = 7) : ∃ a b c d e f g, l = [a, b, c, d, e, f, g] := by
  match l, h with
  | [a, b, c, d, e, f, g], _ => exact ⟨a, b, c, d, e, f, g, rfl⟩
/-- what the program's table says of the type of variables -/
structure VarTypes (P : Program) (tR tV : TypeId) : Prop where
  st : ∃ fs, P.underlying tR = some (.struct fs) ∧ (fs[0]?).map (fun f => (f.type, f.offset)) = some (9, 0) ∧ (fs[1]?).map (fun f => (f.type, f.offset)) = some (tV, 1)
  c : P.cellsOf tR = 7
theorem evar_len {B : Nat → Prop} {x : VR} {cs : List Value} (h : EVar.R B w x cs) : cs.length = 7 := EVar.len h
theorem vars_of2 {tR tV tL tK tS : TypeId} (hT : VTypes P tV tL tK) (hR : VarTypes P tR tV) (uS : P.underlying tS = some (.slice tR)) (bV : P.bytesOf tV = 88) (b9 : P.bytesOf 9 = 16) {n : Nat} {v : Value} {x : DataW H × List MemPlace} (h : DataW.trod enc P w 0 (fun _ => true) true n tS [v] = some x) :
    ∃ L : List VR, EVar.Row (fun b => b < w.heap.size) w L v ∧ L.length ≤ 9223372036854775807 ∧ (∀ q ∈ L, q.1.size ≤ 9223372036854775807) ∧ (∀ q ∈ L, q.2.wf) ∧ (Reach P tS x.1 → L.length * P.bytesOf tR ≤ reachBytes ∧ ∀ q ∈ L, q.2.fit) := by
  have hT' := hT
  obtain ⟨⟨fs, he, f0, f1⟩, cR⟩ := hR
  obtain ⟨_, ⟨cV, c3, c4, c9, cL, cK⟩, u3, u4, u9, uL, uK⟩ := hT'
  obtain ⟨L, hLl, hLr, hL⟩ := row_of2 (enc := enc) (R := fun cs (q : VR) => EVar.R (fun b => b < w.heap.size) w q cs ∧ q.1.size ≤ 9223372036854775807 ∧ q.2.wf) (G := fun d (q : VR) => Reach P tR d → q.2.fit) cR uS (by decide) (fun cs q h => evar_len h.1) (fun m cs y _ hy => by
    obtain ⟨xs, m', rfl, hxa, hlen, hxl, hf⟩ := DataW.trod_struct he hy
    rw [cR] at hlen
    obtain ⟨a, b, c, d, e, f, g, rfl⟩ := seven_of hlen
    obtain ⟨x0, _, _, g0⟩ := field_at2 hxl hf f0 c9
    obtain ⟨x1, y1, z1, g1⟩ := field_at2 hxl hf f1 cV
    obtain ⟨s, e0, _, w0⟩ := DataW.trod_string u9 g0
    obtain ⟨t, ⟨hc, hw⟩, hfit, _⟩ := value_of2 hT bV b9 m' [b, c, d, e, f, g] x1 g1
    simp at e0
    subst e0
    exact ⟨(s, t), ⟨evar_mk (VCell.low _ _ hc), w0, hw⟩, fun hr => hfit (by rw [hxa] at hr; exact reach_field he y1 z1 hr)⟩) h
  have hall : ∀ q ∈ L, q.1.size ≤ 9223372036854775807 ∧ q.2.wf := fun q hq => by
    obtain ⟨j, hj, rfl⟩ := List.getElem_of_mem hq
    rcases hL with ⟨_, _, _, rfl⟩ | ⟨_, _, _, _, _, _, hr⟩
    · cases hj
    · obtain ⟨_, _, h⟩ := hr j hj
      exact h.2
  refine ⟨L, ?_, hLl, fun q hq => (hall q hq).1, fun q hq => (hall q hq).2, fun hr => ?_⟩
  · rcases hL with h | ⟨bl, off, cap, h1, h2, h3, h4⟩
    · exact .inl h
    · exact .inr ⟨bl, off, cap, h1, h2, h2, h3, fun k hk => by
        obtain ⟨cs, q1, q2, _⟩ := h4 k hk
        exact ⟨cs, q1, q2⟩⟩
  · rcases hLr with ⟨_, rfl⟩ | ⟨es, rs, h1, h2, h3⟩
    · exact ⟨by simp, fun t ht => by cases ht⟩
    · rw [h1] at hr
      obtain ⟨r1, r2⟩ := reach_row uS h2 hr
      refine ⟨r1, fun q hq => ?_⟩
      obtain ⟨j, hj, rfl⟩ := List.getElem_of_mem hq
      exact h3 j (by omega) hj (r2 _ (List.getElem_mem _))
end
end Go.Proofs.YtbndgmbjfgmdnaaGreatDoor
