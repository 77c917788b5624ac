/- The law's helpers: small, axis; slice literals. -/
import Derived.Test.YtomecnncighkgaaGreatDoorMx7m
import Derived.Test.YtomecnncighkgaaGreatDoorMm0
namespace Go.Proofs.YtomecnncighkgaaGreatDoor
open Go.RowKit Go.Deep

abbrev LawPost (w : World) (e : Ending) (w' : World) : Prop := e = .returned (.bool true) ∧ Below w.heap.size w w'
/-- a slice literal of two things -/
theorem wpList_buildTwo {P : Program} {ops : Array Oper} {rest : List Oper} {o : Oper} {a : Act} {w : World} {Q : Exit → Act → World → Prop} (hg : o.guard = none) (t e : TypeId) (x y : Operand) (ho : o.op = .buildSlice t 2 #[(0, x), (1, y)]) (cx cy cells : Array Value) (ie : TypeInfo) (z : Value)
    (hu : P.underlying t = some (.slice e)) (hie : P.info? e = some ie) (hz : ie.zero = some z) (s : Nat) (hsz : ie.size = s) (hsmall : s ≤ 1000) (hpos : 0 < s)
    (hx : (a.eval x).cells = cx) (hy : (a.eval y).cells = cy) (hcx : cx.size = s) (hcy : cy.size = s) (hc : cx ++ cy = cells) (w1 : World) (hw : w.alloc (.cells cells e) = w1)
    (h : wpList P ops Q rest (a.put o.dst (.slice (some ⟨w.heap.size, 0, none⟩) 2 2)) w1) : wpList P ops Q (o :: rest) a w := by
  subst hw hc
  refine Go.wpList_buildSlice hg t e 2 #[(0, x), (1, y)] ho _ ie z hu hie hz (by rw [hsz]; omega) (by rw [hsz]; omega) ?_ h
  have e1 : (#[(0, x), (1, y)].map fun (i, x) => (i, a.eval x)).toList = [(0, a.eval x), (1, a.eval y)] := by simp
  rw [e1, hsz]
  have h := Great.fill_whole (s := s) hpos [a.eval x, a.eval y] ((Array.range (2 * s)).map (z.cells[· % z.cells.size]!)) (by
    intro v hv
    rcases List.mem_cons.1 hv with rfl | hv
    · rw [hx, hcx]
    · rw [List.mem_singleton.1 hv, hy, hcy]) (by simp)
  have e2 : (([a.eval x, a.eval y].zipIdx 0).map fun x => (x.2, x.1)) = [(0, a.eval x), (1, a.eval y)] := rfl
  rw [e2] at h
  rw [h]
  simp [hx, hy]
/-- things that fill a block -/
theorem ElemK.Row.ofBlock {α : Type} {E : ElemK α} {B : Nat → Prop} {w : World} {L : List α} (css : List (List Value)) {b : Nat} {e : TypeId} {fr : Nat × Nat} {n cap : Nat} (hk : w.heap[b]? = some (.cells css.flatten.toArray e fr)) (hl : css.length = L.length) (hn : n = L.length)
    (hR : ∀ (k : Nat) (h1 : k < L.length) (h2 : k < css.length), E.R B w L[k] css[k]) (hB : B b) (hc : L.length ≤ cap) : E.Row B w L (.slice (some ⟨b, 0, none⟩) n cap) := by
  subst hn
  refine .inr ⟨b, 0, cap, rfl, hB, (Array.getElem?_eq_some_iff.1 hk).1, hc, fun k hk2 => ⟨css[k]'(by omega), fun j u hu => ?_, hR k hk2 (by omega)⟩⟩
  rw [Nat.zero_add, cell_of_blk hk, List.getElem?_toArray]
  refine flatten_at css k (by omega) j u (fun c hc2 => ?_) hu
  obtain ⟨i, hi, rfl⟩ := List.getElem_of_mem hc2
  exact E.len (hR i (by omega) hi)
theorem vcellB_flat {B : Nat → Prop} {w : World} (k : Int) (b : Bool) (n : Int) (s : ByteArray) : VCellB B w (.mk k b n s [] []) [.int .i64 k, .bool b, .int .i64 n, .string s, .slice none 0 0, .slice none 0 0] :=
  vcellB_mk.2 ⟨_, _, rfl, .inl ⟨none, 0, rfl, rfl⟩, .inl ⟨none, 0, rfl, rfl⟩⟩
theorem flat_wf {k n : Int} {b : Bool} {s : ByteArray} (hk : isI k) (hn : isI n) (hs : s.size ≤ 9223372036854775807) : (VT.mk k b n s [] []).wf := by
  rw [VT.wf, wfL_iff]
  exact ⟨hk, hn, hs, by decide, by decide, fun x hx => (by cases hx), fun x hx => (by cases hx)⟩

theorem wp_store_row {P : Program} {o : Oper} {a : Act} {w : World} {K : Act → World → Prop} {Q : Exit → Act → World → Prop} (ty : TypeId) (x y : Operand) (ho : o.op = .store ty x y)
    (g : Nat) (hx : a.eval x = .pointer (some ⟨g, 0, none⟩)) (t : TypeId) (cur : Array Value) (hg : w.heap[g]? = some (.cells cur t (0, 0)))
    (v : Value) (hy : a.eval y = v) (hi : (P.info? ty).map (·.size) = some cur.size) (hs : v.cells.size = cur.size) (h1 : v.cells.toList.all (·.oneCell') = true)
    (h : ∀ w', Wrote g (.cells v.cells t (0, 0)) w w' → K (a.put o.dst undef) w') : Oper.wp P o a w K Q := by
  have hst := run_storeCells_at P g 0 t v.cells.toList 0 cur w hg (by simp [hs]) (List.all_eq_true.1 h1)
  have e : (cur.toList.take (0 + 0) ++ v.cells.toList ++ cur.toList.drop (0 + 0 + v.cells.toList.length)).toArray = v.cells := by
    apply Array.ext'
    simp [hs]
  rw [e] at hst
  obtain ⟨i, hi1, hi2⟩ := Option.map_eq_some_iff.1 hi
  unfold Oper.wp
  simp [execOp, ho, hx, hy, Instr.storeAt, Instr.sureAddr, storeVar, sizeOf, typeInfo, hi1, hi2, hs, hst, Result.andThen]
  exact h _ ⟨rfl, rfl, rfl, by simp [World.setRow], setRow_heap w g cur _ t _ hg, fun k hk => setRow_other w g k _ hk⟩
/-- a slice literal of two things, at an operation -/
theorem wp_buildTwo {P : Program} {o : Oper} {a : Act} {w : World} {K : Act → World → Prop} {Q : Exit → Act → World → Prop} (t e : TypeId) (x y : Operand) (ho : o.op = .buildSlice t 2 #[(0, x), (1, y)]) (cx cy cells : Array Value) (ie : TypeInfo) (z : Value)
    (hu : P.underlying t = some (.slice e)) (hie : P.info? e = some ie) (hz : ie.zero = some z) (s : Nat) (hsz : ie.size = s) (hsmall : s ≤ 1000) (hpos : 0 < s)
    (hx : (a.eval x).cells = cx) (hy : (a.eval y).cells = cy) (hcx : cx.size = s) (hcy : cy.size = s) (hc : cx ++ cy = cells)
    (h : K (a.put o.dst (.slice (some ⟨w.heap.size, 0, none⟩) 2 2)) (w.alloc (.cells cells e))) : o.wp P a w K Q := by
  subst hc
  refine wp_buildSlice t e 2 #[(0, x), (1, y)] ho (cx ++ cy) ie z hu hie hz (by rw [hsz]; omega) (by rw [hsz]; omega) ?_ h
  have e1 : (#[(0, x), (1, y)].map fun (i, x) => (i, a.eval x)).toList = [(0, a.eval x), (1, a.eval y)] := by simp
  rw [e1, hsz]
  have h := Great.fill_whole (s := s) hpos [a.eval x, a.eval y] ((Array.range (2 * s)).map (z.cells[· % z.cells.size]!)) (by
    intro v hv
    rcases List.mem_cons.1 hv with rfl | hv
    · rw [hx, hcx]
    · rw [List.mem_singleton.1 hv, hy, hcy]) (by simp)
  have e2 : (([a.eval x, a.eval y].zipIdx 0).map fun x => (x.2, x.1)) = [(0, a.eval x), (1, a.eval y)] := rfl
  rw [e2] at h
  rw [h]
  simp [hx, hy]

/-! ### small -/
def sumA (m : MX) (i : Nat) : Nat := m.axes.length + m.incl.length + m.excl.length + ((m.axes.take i).map fun a => a.2.length).sum
def sumI (m : MX) (i : Nat) : Nat := sumA m m.axes.length + ((m.incl.take i).map List.length).sum
def sumE (m : MX) (i : Nat) : Nat := sumI m m.incl.length + ((m.excl.take i).map List.length).sum
def smallF (m : MX) : Bool := decide (m.axes.length + m.incl.length + m.excl.length ≤ 2000) && decide (sumE m m.excl.length ≤ 2000)
theorem sum_step {α : Type} (f : α → Nat) {l : List α} {i : Nat} (hi : i < l.length) : ((l.take (i + 1)).map f).sum = ((l.take i).map f).sum + f l[i] := by
  rw [List.take_succ_eq_append_getElem hi, List.map_append, List.sum_append]
  simp
theorem sum_le {α : Type} (f : α → Nat) {K : Nat} : ∀ {l : List α}, (∀ a ∈ l, f a ≤ K) → (l.map f).sum ≤ l.length * K
  | [], _ => by simp
  | a :: l, h => by
    rw [List.map_cons, List.sum_cons, List.length_cons, Nat.succ_mul]
    have h1 := h a (List.mem_cons_self ..)
    have h2 := sum_le f fun b hb => h b (List.mem_cons_of_mem _ hb)
    omega
theorem sum_mem {α : Type} (f : α → Nat) : ∀ {l : List α} {a : α}, a ∈ l → f a ≤ (l.map f).sum
  | b :: l, a, h => by
    rw [List.map_cons, List.sum_cons]
    rcases List.mem_cons.1 h with rfl | h
    · omega
    · have := sum_mem f h; omega
/-- a bound on sums of such lengths -/
structure MX.fit (m : MX) : Prop where
  la : m.axes.length ≤ 281474976710656
  li : m.incl.length ≤ 281474976710656
  le : m.excl.length ≤ 281474976710656
  a : ∀ x ∈ m.axes, x.2.length ≤ 281474976710656
  i : ∀ x ∈ m.incl, x.length ≤ 281474976710656
  e : ∀ x ∈ m.excl, x.length ≤ 281474976710656
theorem sum_take_le {α : Type} (f : α → Nat) {K : Nat} {l : List α} (h : ∀ a ∈ l, f a ≤ K) (hl : l.length ≤ 2000) (i : Nat) : ((l.take i).map f).sum ≤ 2000 * K := by
  have h1 := sum_le f (l := l.take i) fun a ha => h a (List.mem_of_mem_take ha)
  have h2 : (l.take i).length ≤ 2000 := by rw [List.length_take]; omega
  exact Nat.le_trans h1 (Nat.mul_le_mul_right _ h2)
theorem small_incl {m : MX} (h : smallF m = true) : (∀ L ∈ m.incl, L.length ≤ 2000) ∧ m.incl.length ≤ 2000 ∧ m.excl.length ≤ 2000 ∧ m.axes.length ≤ 2000 := by
  unfold smallF at h
  rw [Bool.and_eq_true] at h
  have h1 := of_decide_eq_true h.1
  have h2 := of_decide_eq_true h.2
  refine ⟨fun L hL => ?_, by omega, by omega, by omega⟩
  have := sum_mem List.length hL
  unfold sumE sumI at h2
  rw [List.take_length, List.take_length] at h2
  omega
def SmRel (n : Nat) (s : Nat → Nat) (w1 : World) (f : Nat) (t3 ti : Value) (wr : World) : Prop :=
  ∃ i : Nat, ti = .int .i64 (i : Nat) ∧ i ≤ n ∧ f = n - i ∧ t3 = .int .i64 (s i : Nat) ∧ w1 = wr
set_option maxRecDepth 100000 in
set_option maxHeartbeats 3200000 in
theorem small_any (m : MX) (v : Value) (B : Nat → Prop) (hf : m.fit) (w : World) (h : MAt B w v m) :
    Calls Tryz.prog 8 #[v] w fun e w' => e = .returned (.bool (smallF m)) ∧ Below w.heap.size w w' := by
  obtain ⟨ao, ac, io, ic, eo, ec, rfl, hA, hI, hE⟩ := h
  obtain ⟨W1, hW1⟩ : ∃ W1, w.alloc (.cells #[.slice ao m.axes.length ac, .slice io m.incl.length ic, .slice eo m.excl.length ec] 25 (0, 0)) = W1 := ⟨_, rfl⟩
  have hk1 : W1.heap[w.heap.size]? = some (.cells #[.slice ao m.axes.length ac, .slice io m.incl.length ic, .slice eo m.excl.length ec] 25 (0, 0)) := by rw [← hW1]; exact hp_new rfl
  have hb1 : Below w.heap.size w W1 := by rw [← hW1]; exact (Below.refl _ w).alloc (Nat.le_refl _) _
  have HLT : Hid (w.heap.size < W1.heap.size) := (Array.getElem?_eq_some_iff.1 hk1).1
  have HK1 := Lib.hid hk1
  have HBX : Hid (∀ W', Below W1.heap.size W1 W' → W'.cell? ⟨w.heap.size, 0, none⟩ = some (.slice ao m.axes.length ac) ∧ W'.cell? ⟨w.heap.size, 1, none⟩ = some (.slice io m.incl.length ic) ∧ W'.cell? ⟨w.heap.size, 2, none⟩ = some (.slice eo m.excl.length ec)) := fun W' hb => by
    have q := (hb.block _ HLT.out).trans HK1.out
    exact ⟨cell_of_blk q 0, cell_of_blk q 1, cell_of_blk q 2⟩
  have HA := Lib.hid (hA.below hb1)
  have HI := Lib.hid (hI.below hb1)
  have HE := Lib.hid (hE.below hb1)
  have HB0 := Lib.hid hb1
  obtain ⟨p0, p1, p2⟩ := HBX.out W1 (Below.refl _ _)
  have la := hf.la
  have li := hf.li
  have le := hf.le
  have HSF : Hid (smallF m = (decide (m.axes.length + m.incl.length + m.excl.length ≤ 2000) && decide (sumE m m.excl.length ≤ 2000))) := rfl
  have HF := Lib.hid hf
  clear hA hI hE hb1 hk1 HLT HK1 HBX hf
  have q1 : IntKind.i64.wrap ((m.axes.length : Int) + (m.incl.length : Int)) = (m.axes.length : Int) + (m.incl.length : Int) := IntWalk.i64_in _ (by omega)
  have q2 : IntKind.i64.wrap ((m.axes.length : Int) + (m.incl.length : Int) + (m.excl.length : Int)) = (m.axes.length : Int) + (m.incl.length : Int) + (m.excl.length : Int) := IntWalk.i64_in _ (by omega)
  by_cases hbig : m.axes.length + m.incl.length + m.excl.length ≤ 2000
  · have t1 : decide ((2000 : Int) < (m.axes.length : Int) + (m.incl.length : Int) + (m.excl.length : Int)) = false := decide_eq_false (by omega)
    have t1b : ¬ (2000 : Int) < (m.axes.length : Int) + (m.incl.length : Int) + (m.excl.length : Int) := by omega
    have HA0 : Hid (sumA m 0 = m.axes.length + m.incl.length + m.excl.length) := by unfold Hid sumA; simp
    have HI0 : Hid (sumI m 0 = sumA m m.axes.length) := by unfold Hid sumI; simp
    have HE0 : Hid (sumE m 0 = sumI m m.incl.length) := by unfold Hid sumE; simp
    have HAS : Hid (∀ i (hi : i < m.axes.length), sumA m (i + 1) = sumA m i + m.axes[i].2.length) := fun i hi => by unfold sumA; rw [sum_step (fun a : AX => a.2.length) hi]; omega
    have HIS : Hid (∀ i (hi : i < m.incl.length), sumI m (i + 1) = sumI m i + m.incl[i].length) := fun i hi => by unfold sumI; rw [sum_step List.length hi]; omega
    have HES : Hid (∀ i (hi : i < m.excl.length), sumE m (i + 1) = sumE m i + m.excl[i].length) := fun i hi => by unfold sumE; rw [sum_step List.length hi]; omega
    have HAB : Hid (∀ i, sumA m i ≤ 600000000000000000) := fun i => by
      have := sum_take_le (fun a : AX => a.2.length) HF.out.a (by omega) i
      unfold sumA; omega
    have HIB : Hid (∀ i, sumI m i ≤ 1200000000000000000) := fun i => by
      have h1 := sum_take_le List.length HF.out.i (by omega) i
      have h2 := HAB.out m.axes.length
      unfold sumI; omega
    have HEB : Hid (∀ i, sumE m i ≤ 1800000000000000000) := fun i => by
      have h1 := sum_take_le List.length HF.out.e (by omega) i
      have h2 := HIB.out m.incl.length
      unfold sumE; omega
    clear HF
    go_enter Tryz.func8, Tryz.ntmps8
    go_wp2_with fail
    clear hW1
    go_loopg [3, 4] m.axes.length (SmRel m.axes.length (sumA m) W1)
    case atStart => exact ⟨0, rfl, Nat.zero_le _, rfl, iv (by rw [HA0.out] <;> rfl), rfl⟩
    case round =>
      obtain ⟨i, rfl, hi, rfl, rfl, rfl⟩ := hrel
      by_cases hlt : i < m.axes.length
      · have hii : (i : Int) < (m.axes.length : Int) := by omega
        have hst := HAS.out i hlt
        have hbd := HAB.out (i + 1)
        obtain ⟨bl, off, a1, c1, hao, hbl, e0, e1, hvr⟩ := eax_at HA.out hlt
        subst hao
        rw [hst] at hbd
        have HST := Lib.hid hst
        clear hst hvr
        generalize m.axes[i].2.length = n at *
        generalize sumA m i = sv at *
        have q1 : IntKind.i64.wrap ((sv : Int) + (n : Int)) = (sv : Int) + (n : Int) := IntWalk.i64_in _ (by omega)
        as_aux_lemma =>
        go_wp2_with fail
        go_roundg (m.axes.length - (i + 1))
        case measure => omega
        case rel => exact ⟨i + 1, by go_num, by omega, rfl, iv (by rw [HST.out]; omega), rfl⟩
      · have hii : ¬ (i : Int) < (m.axes.length : Int) := by omega
        have he : i = m.axes.length := by omega
        subst he
        clear hlt hi
        as_aux_lemma =>
        go_wp2_with fail
        go_loopg [3, 5] m.incl.length (SmRel m.incl.length (sumI m) W1)
        case atStart => exact ⟨0, rfl, Nat.zero_le _, rfl, iv (by rw [HI0.out] <;> rfl), rfl⟩
        case round =>
          obtain ⟨i, rfl, hi, rfl, rfl, rfl⟩ := hrel
          by_cases hlt : i < m.incl.length
          · have hii : (i : Int) < (m.incl.length : Int) := by omega
            have hst := HIS.out i hlt
            have hbd := HIB.out (i + 1)
            obtain ⟨bl, off, a1, c1, hao, hbl, e0, hvr⟩ := evars_at HI.out hlt
            subst hao
            rw [hst] at hbd
            have HST := Lib.hid hst
            clear hst hvr
            generalize m.incl[i].length = n at *
            generalize sumI m i = sv at *
            have q1 : IntKind.i64.wrap ((sv : Int) + (n : Int)) = (sv : Int) + (n : Int) := IntWalk.i64_in _ (by omega)
            as_aux_lemma =>
            go_wp2_with fail
            go_roundg (m.incl.length - (i + 1))
            case measure => omega
            case rel => exact ⟨i + 1, by go_num, by omega, rfl, iv (by rw [HST.out]; omega), rfl⟩
          · have hii : ¬ (i : Int) < (m.incl.length : Int) := by omega
            have he : i = m.incl.length := by omega
            subst he
            clear hlt hi
            as_aux_lemma =>
            go_wp2_with fail
            go_loopg [3, 6] m.excl.length (SmRel m.excl.length (sumE m) W1)
            case atStart => exact ⟨0, rfl, Nat.zero_le _, rfl, iv (by rw [HE0.out] <;> rfl), rfl⟩
            case round =>
              obtain ⟨i, rfl, hi, rfl, rfl, rfl⟩ := hrel
              by_cases hlt : i < m.excl.length
              · have hii : (i : Int) < (m.excl.length : Int) := by omega
                have hst := HES.out i hlt
                have hbd := HEB.out (i + 1)
                obtain ⟨bl, off, a1, c1, hao, hbl, e0, hvr⟩ := evars_at HE.out hlt
                subst hao
                rw [hst] at hbd
                have HST := Lib.hid hst
                clear hst hvr
                generalize m.excl[i].length = n at *
                generalize sumE m i = sv at *
                have q1 : IntKind.i64.wrap ((sv : Int) + (n : Int)) = (sv : Int) + (n : Int) := IntWalk.i64_in _ (by omega)
                as_aux_lemma =>
                go_wp2_with fail
                go_roundg (m.excl.length - (i + 1))
                case measure => omega
                case rel => exact ⟨i + 1, by go_num, by omega, rfl, iv (by rw [HST.out]; omega), rfl⟩
              · have hii : ¬ (i : Int) < (m.excl.length : Int) := by omega
                have he : i = m.excl.length := by omega
                subst he
                clear hlt hi
                have hN : Hid (smallF m = decide (sumE m m.excl.length ≤ 2000)) := by unfold Hid; rw [HSF.out, decide_eq_true hbig, Bool.true_and]
                generalize sumE m m.excl.length = sv at *
                as_aux_lemma =>
                go_wp2_with fail
                go_ret
                exact ⟨ret_bool (by rw [hN.out, Bool.eq_iff_iff]; simp; first | done | omega), HB0.out⟩
  · have t1 : (2000 : Int) < (m.axes.length : Int) + (m.incl.length : Int) + (m.excl.length : Int) := by omega
    have hN : Hid (smallF m = false) := by unfold Hid; rw [HSF.out, decide_eq_false hbig, Bool.false_and]
    clear hbig HSF HA HI HE HF
    as_aux_lemma =>
    go_enter Tryz.func8, Tryz.ntmps8
    go_wp2_with fail
    go_ret
    exact ⟨by rw [hN.out] <;> rfl, HB0.out⟩

/-! ### axis -/
theorem Tryz.built_ax (nm : ByteArray) (ao : Option Addr) (n c : Nat) : Tryz.prog.built 50 [(0, .string nm), (1, .slice ao n c)] = some #[.string nm, .slice ao n c] := by kernel_rfl
abbrev flatV (k : Int) (b : Bool) (n : Int) (s : ByteArray) : Value := .agg #[.int .i64 k, .bool b, .int .i64 n, .string s, .slice none 0 0, .slice none 0 0]
set_option maxRecDepth 100000 in
set_option maxHeartbeats 3200000 in
theorem axis2_any (nm : ByteArray) (k1 n1 k2 n2 : Int) (b1 b2 : Bool) (s1 s2 : ByteArray) (w : World) :
    Calls Tryz.prog 23 #[.string nm, .agg #[.int .i64 k1, .bool b1, .int .i64 n1, .string s1, .slice none 0 0, .slice none 0 0], .agg #[.int .i64 k2, .bool b2, .int .i64 n2, .string s2, .slice none 0 0, .slice none 0 0]] w fun e w' => ∃ g, e = .returned (.agg #[.string nm, .slice (some ⟨g, 0, none⟩) 2 2]) ∧ w.heap.size ≤ g ∧ g < w'.heap.size ∧
      w'.heap[g]? = some (.cells #[.int .i64 k1, .bool b1, .int .i64 n1, .string s1, .slice none 0 0, .slice none 0 0, .int .i64 k2, .bool b2, .int .i64 n2, .string s2, .slice none 0 0, .slice none 0 0] 46 (0, 0)) ∧ Below w.heap.size w w' := by
  obtain ⟨iV, hiV, hzV, hnV, hyV⟩ := Tryz.vinfoV'
  have HI := Lib.hid hiV
  clear hiV
  obtain ⟨W1, hW1⟩ : ∃ W1, ((w.alloc (.cells #[.int .i64 k1, .bool b1, .int .i64 n1, .string s1, .slice none 0 0, .slice none 0 0] 46)).alloc (.cells #[.int .i64 k2, .bool b2, .int .i64 n2, .string s2, .slice none 0 0, .slice none 0 0] 46)).alloc (.cells #[.string ⟨#[]⟩, .slice none 0 0] 50) = W1 := ⟨_, rfl⟩
  have hs1 : W1.heap.size = w.heap.size + 3 := by rw [← hW1]; simp
  have ha1 : W1.heap[w.heap.size]? = some (.cells #[.int .i64 k1, .bool b1, .int .i64 n1, .string s1, .slice none 0 0, .slice none 0 0] 46 (0, 0)) := by rw [← hW1]; exact (hp_old (by simp; omega)).trans ((hp_old (by simp)).trans (hp_new rfl))
  have ha2 : W1.heap[w.heap.size + 1]? = some (.cells #[.int .i64 k2, .bool b2, .int .i64 n2, .string s2, .slice none 0 0, .slice none 0 0] 46 (0, 0)) := by rw [← hW1]; exact (hp_old (by simp)).trans (hp_new (by simp))
  have ha3 : W1.heap[w.heap.size + 2]? = some (.cells #[.string ⟨#[]⟩, .slice none 0 0] 50 (0, 0)) := by rw [← hW1]; exact hp_new (by simp)
  have hb1 : Below w.heap.size w W1 := by rw [← hW1]; exact (((Below.refl _ w).alloc (Nat.le_refl _) _).alloc (by simp) _).alloc (by simp; omega) _
  obtain ⟨W2, hW2⟩ : ∃ W2, W1.alloc (.cells #[.int .i64 k1, .bool b1, .int .i64 n1, .string s1, .slice none 0 0, .slice none 0 0, .int .i64 k2, .bool b2, .int .i64 n2, .string s2, .slice none 0 0, .slice none 0 0] 46) = W2 := ⟨_, rfl⟩
  have h2n : W2.heap[w.heap.size + 3]? = some (.cells #[.int .i64 k1, .bool b1, .int .i64 n1, .string s1, .slice none 0 0, .slice none 0 0, .int .i64 k2, .bool b2, .int .i64 n2, .string s2, .slice none 0 0, .slice none 0 0] 46 (0, 0)) := by rw [← hW2]; exact hp_new hs1.symm
  have h2a : W2.heap[w.heap.size + 2]? = some (.cells #[.string ⟨#[]⟩, .slice none 0 0] 50 (0, 0)) := by rw [← hW2]; exact (hp_old (by omega)).trans ha3
  have HB2 : Hid (Below w.heap.size w W2) := by unfold Hid; rw [← hW2]; exact hb1.alloc hb1.size _
  have HA2 := Lib.hid h2a
  have HN2 := Lib.hid h2n
  have HW2 := Lib.hid hW2
  have c0 := cell_of_blk ha1 0
  have c1 := cell_of_blk ha1 1
  have c2 := cell_of_blk ha1 2
  have c3 := cell_of_blk ha1 3
  have c4 := cell_of_blk ha1 4
  have c5 := cell_of_blk ha1 5
  have d0 := cell_of_blk ha2 0
  have d1 := cell_of_blk ha2 1
  have d2 := cell_of_blk ha2 2
  have d3 := cell_of_blk ha2 3
  have d4 := cell_of_blk ha2 4
  have d5 := cell_of_blk ha2 5
  have HS1 := Lib.hid hs1
  clear ha1 ha2 ha3 hb1 hW2 h2n h2a hs1
  go_enter Tryz.func23, Tryz.ntmps23
  go_wp2_with (first
    | (refine wpList_buildTwo rfl 43 46 _ _ rfl #[.int .i64 k1, .bool b1, .int .i64 n1, .string s1, .slice none 0 0, .slice none 0 0] #[.int .i64 k2, .bool b2, .int .i64 n2, .string s2, .slice none 0 0, .slice none 0 0] _ iV _ Tryz.underlying43 HI.out hzV 6 hnV (by decide) (by decide) rfl rfl rfl rfl rfl W2 HW2.out ?_)
    | (refine wpList_build2 rfl 50 _ _ rfl (.string nm) _ rfl rfl _ (Tryz.built_ax _ _ _ _) ?_)
    | (refine wpList_store_row rfl 50 _ _ rfl (w.heap.size + 2) rfl 50 _ HA2.out (.agg #[.string nm, .slice (some ⟨W1.heap.size, 0, none⟩) 2 2]) rfl (by kernel_rfl) rfl rfl ?_))
  intro w7 hw7
  have k7 := hw7.at_
  have HB7 : Hid (Below w.heap.size w w7) := HB2.out.trans (hw7.below (by omega))
  have n7 := (hw7.block (w.heap.size + 3) (by omega)).trans HN2.out
  have hs7 := (Array.getElem?_eq_some_iff.1 n7).1
  rw [HS1.out] at k7 ⊢
  have HK7 := Lib.hid k7
  have HN7 := Lib.hid n7
  clear hw7 k7 n7 c0 c1 c2 c3 c4 c5 d0 d1 d2 d3 d4 d5
  go_wp2_with fail
  (try simp only [Exit.inBlock, Exit.then])
  refine bodyPost_ret (results_row1 rfl _ _ (w.heap.size + 2) _ _ _ _ rfl HK7.out Tryz.underlying50 rfl (by kernel_rfl)) rfl ?_
  exact ⟨_, rfl, by omega, hs7, HN7.out, HB7.out⟩
end Go.Proofs.YtomecnncighkgaaGreatDoor
