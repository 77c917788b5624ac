/- The walk over the law's awake: the examples of the chapter hold. -/
import Derived.Test.YtomecnncighkgaaGreatDoorMl1
import Derived.Test.YtomecnncighkgaaGreatDoorMw8
import Derived.Test.YtomecnncighkgaaGreatDoorMw9
import Derived.Test.YtomecnncighkgaaGreatDoorVr3m
namespace Go.Proofs.YtomecnncighkgaaGreatDoor
open Go.RowKit Go.Deep

/-- the matrix of the examples, as it lies -/
structure AwP (W4 : World) (b5 bS g1 g2 : Nat) (ci ce : Value) (W : World) : Prop where
  m : W.heap[b5]? = some (.cells #[.slice (some ⟨bS, 0, none⟩) 2 2, ci, ce] 25 (0, 0))
  ax : W.heap[bS]? = some (.cells #[.string sOS, .slice (some ⟨g1, 0, none⟩) 2 2, .string sGO, .slice (some ⟨g2, 0, none⟩) 2 2] 50 (0, 0))
  v1 : W.heap[g1]? = some (.cells #[.int .i64 3, .bool false, .int .i64 0, .string sLi, .slice none 0 0, .slice none 0 0, .int .i64 3, .bool false, .int .i64 0, .string sMa, .slice none 0 0, .slice none 0 0] 46 (0, 0))
  v2 : W.heap[g2]? = some (.cells #[.int .i64 2, .bool false, .int .i64 1, .string ⟨#[]⟩, .slice none 0 0, .slice none 0 0, .int .i64 2, .bool false, .int .i64 2, .string ⟨#[]⟩, .slice none 0 0, .slice none 0 0] 46 (0, 0))
  l5 : W4.heap.size ≤ b5
  lS : W4.heap.size ≤ bS
  l1 : W4.heap.size ≤ g1
  l2 : W4.heap.size ≤ g2
  bl : Below W4.heap.size W4 W
section
variable {W4 W W' : World} {b5 bS g1 g2 : Nat} {ci ce : Value}
theorem AwP.lt (h : AwP W4 b5 bS g1 g2 ci ce W) : b5 < W.heap.size ∧ bS < W.heap.size ∧ g1 < W.heap.size ∧ g2 < W.heap.size :=
  ⟨(Array.getElem?_eq_some_iff.1 h.m).1, (Array.getElem?_eq_some_iff.1 h.ax).1, (Array.getElem?_eq_some_iff.1 h.v1).1, (Array.getElem?_eq_some_iff.1 h.v2).1⟩
theorem AwP.next (h : AwP W4 b5 bS g1 g2 ci ce W) (hb : Below W.heap.size W W') : AwP W4 b5 bS g1 g2 ci ce W' :=
  ⟨(hb.block _ h.lt.1).trans h.m, (hb.block _ h.lt.2.1).trans h.ax, (hb.block _ h.lt.2.2.1).trans h.v1, (hb.block _ h.lt.2.2.2).trans h.v2, h.l5, h.lS, h.l1, h.l2, h.bl.trans (hb.mono h.bl.size)⟩
theorem obj_ne {W : World} {a b n k : Nat} {t t' : TypeId} {f f' : Nat × Nat} {cs ds : Array Value} (h1 : W.heap[a]? = some (.cells cs t f)) (h2 : W.heap[b]? = some (.cells ds t' f')) (hn : cs.size = n) (hk : ds.size = k) (hne : n ≠ k) : a ≠ b := fun e => by
  subst e
  rw [h1] at h2
  injection h2 with h2
  injection h2 with h2 _ _
  subst h2
  omega
theorem AwP.mk1 {o : Array Value} (hm : W.heap[b5]? = some (.cells o 25 (0, 0))) (ho : o.size = 3)
    (ha : W.heap[bS]? = some (.cells #[.string sOS, .slice (some ⟨g1, 0, none⟩) 2 2, .string sGO, .slice (some ⟨g2, 0, none⟩) 2 2] 50 (0, 0)))
    (h1 : W.heap[g1]? = some (.cells #[.int .i64 3, .bool false, .int .i64 0, .string sLi, .slice none 0 0, .slice none 0 0, .int .i64 3, .bool false, .int .i64 0, .string sMa, .slice none 0 0, .slice none 0 0] 46 (0, 0)))
    (h2 : W.heap[g2]? = some (.cells #[.int .i64 2, .bool false, .int .i64 1, .string ⟨#[]⟩, .slice none 0 0, .slice none 0 0, .int .i64 2, .bool false, .int .i64 2, .string ⟨#[]⟩, .slice none 0 0, .slice none 0 0] 46 (0, 0)))
    (hw : Wrote b5 (.cells #[.slice (some ⟨bS, 0, none⟩) 2 2, ci, ce] 25 (0, 0)) W W') (hb : Below W4.heap.size W4 W) (l5 : W4.heap.size ≤ b5) (lS : W4.heap.size ≤ bS) (l1 : W4.heap.size ≤ g1) (l2 : W4.heap.size ≤ g2) :
    AwP W4 b5 bS g1 g2 ci ce W' :=
  ⟨hw.at_, (hw.block _ (obj_ne (n := 4) (k := 3) ha hm rfl ho (by decide))).trans ha, (hw.block _ (obj_ne (n := 12) (k := 3) h1 hm rfl ho (by decide))).trans h1, (hw.block _ (obj_ne (n := 12) (k := 3) h2 hm rfl ho (by decide))).trans h2, l5, lS, l1, l2, hb.trans ((hw.below l5).mono (Nat.le_refl _))⟩
end
theorem mA_wf : mA.wf := by
  have i1 : ∀ t ∈ [vS sLi, vS sMa], t.wf := fun t ht => by
    rcases List.mem_cons.1 ht with rfl | ht
    · exact flat_wf (by unfold isI; decide) (by unfold isI; decide) (by decide)
    · rw [List.mem_singleton.1 ht]; exact flat_wf (by unfold isI; decide) (by unfold isI; decide) (by decide)
  have i2 : ∀ t ∈ [vI 1, vI 2], t.wf := fun t ht => by
    rcases List.mem_cons.1 ht with rfl | ht
    · exact flat_wf (by unfold isI; decide) (by unfold isI; decide) (by decide)
    · rw [List.mem_singleton.1 ht]; exact flat_wf (by unfold isI; decide) (by unfold isI; decide) (by decide)
  refine ⟨by decide, by decide, by decide, fun x hx => ?_, fun x hx => (by cases hx), fun x hx => (by cases hx)⟩
  rcases List.mem_cons.1 hx with rfl | hx
  · exact ⟨by decide, by decide, i1⟩
  · rw [List.mem_singleton.1 hx]; exact ⟨by decide, by decide, i2⟩
theorem flat_vars {s : ByteArray} {t : VT} {L : List VR} (hs : s.size ≤ 9223372036854775807) (ht : t.wf) (h : wfVars L) (hl : L.length ≤ 1000) : wfVars ((s, t) :: L) :=
  ⟨by rw [List.length_cons]; omega, fun x hx => by
    rcases List.mem_cons.1 hx with rfl | hx
    · exact ⟨hs, ht⟩
    · exact h.2 x hx⟩
theorem nil_vars : wfVars [] := ⟨by decide, fun x hx => (by cases hx)⟩
theorem mB_wf : mB.wf := by
  have hI := flat_wf (k := 2) (b := false) (n := 1) (s := ⟨#[]⟩) (by unfold isI; decide) (by unfold isI; decide) (by decide)
  have hS := flat_wf (k := 3) (b := false) (n := 0) (s := sMa) (by unfold isI; decide) (by unfold isI; decide) (by decide)
  refine ⟨by decide, by decide, by decide, mA_wf.ax, fun x hx => ?_, fun x hx => ?_⟩
  · rw [List.mem_singleton.1 hx]; exact flat_vars (by decide) hS (flat_vars (by decide) hI nil_vars (by decide)) (by decide)
  · rw [List.mem_singleton.1 hx]; exact flat_vars (by decide) hS nil_vars (by decide)
section
variable {W4 W W' : World} {b5 bS g1 g2 : Nat} {ci ce : Value}
theorem AwP.mat {I E : List (List VR)} (h : AwP W4 b5 bS g1 g2 ci ce W) {io eo : Option Addr} {ic ec : Nat} (h1 : ci = .slice io I.length ic) (h2 : ce = .slice eo E.length ec) (hI : EVars.Row (fun b => b < W.heap.size) W I ci) (hE : EVars.Row (fun b => b < W.heap.size) W E ce) :
    MAt (fun b => b < W.heap.size) W (.agg #[.slice (some ⟨bS, 0, none⟩) 2 2, ci, ce]) ⟨[axOS, axGO], I, E⟩ := by
  subst h1 h2
  obtain ⟨q5, qS, q1, q2⟩ := h.lt
  refine ⟨_, _, _, _, _, _, rfl, ?_, hI, hE⟩
  refine ElemK.Row.ofBlock [[.string sOS, .slice (some ⟨g1, 0, none⟩) 2 2], [.string sGO, .slice (some ⟨g2, 0, none⟩) 2 2]] h.ax rfl rfl (fun k h1 h2 => ?_) qS (Nat.le_refl _)
  rcases k with _ | _ | k
  · exact eax_mk (x := axOS) (ElemK.Row.ofBlock [[.int .i64 3, .bool false, .int .i64 0, .string sLi, .slice none 0 0, .slice none 0 0], [.int .i64 3, .bool false, .int .i64 0, .string sMa, .slice none 0 0, .slice none 0 0]] h.v1 rfl rfl (fun k h1 h2 => by
      rcases k with _ | _ | k
      · exact vcellB_flat 3 false 0 sLi
      · exact vcellB_flat 3 false 0 sMa
      · simp at h2; omega) q1 (Nat.le_refl _))
  · exact eax_mk (x := axGO) (ElemK.Row.ofBlock [[.int .i64 2, .bool false, .int .i64 1, .string ⟨#[]⟩, .slice none 0 0, .slice none 0 0], [.int .i64 2, .bool false, .int .i64 2, .string ⟨#[]⟩, .slice none 0 0, .slice none 0 0]] h.v2 rfl rfl (fun k h1 h2 => by
      rcases k with _ | _ | k
      · exact vcellB_flat 2 false 1 ⟨#[]⟩
      · exact vcellB_flat 2 false 2 ⟨#[]⟩
      · simp at h2; omega) q2 (Nat.le_refl _))
  · simp at h2; omega
end
section
variable {B B' : Nat → Prop} {w w' : World}
theorem cell_of_heap {W W' : World} {b o : Nat} (h : W'.heap[b]? = W.heap[b]?) : W'.cell? ⟨b, o, none⟩ = W.cell? ⟨b, o, none⟩ :=
  World.cell?_of_block (w := W) (a := ⟨b, o, none⟩) h
theorem evar_flat {x : VR} {cs : List Value} (h : EVar.R B w x cs) (hf : x.2.list = [] ∧ x.2.keys = []) : EVar.R B' w' x cs := by
  obtain ⟨c2, rfl, hv⟩ := evar_cells h
  obtain ⟨nm, t⟩ := x
  obtain ⟨k, b, n, s, L, ks⟩ := t
  obtain ⟨h1, h2⟩ := hf
  have h1 : L = [] := h1
  have h2 : ks = [] := h2
  subst h1 h2
  obtain ⟨lv, kv, rfl, hs, hL⟩ := vcellB_mk.1 hv
  obtain ⟨a1, c1, rfl⟩ := hs.form
  obtain ⟨a2, c2, rfl⟩ := hL.form
  exact evar_mk (vcellB_mk.2 ⟨_, _, rfl, .nil, .nil⟩)
/-- a small block holds no variables -/
theorem evar_apart {L : List VR} {v : Value} {g : Nat} {cs : Array Value} {t : TypeId} {fr : Nat × Nat} (h : EVar.Row B w L v) (hf : ∀ x ∈ L, x.2.list = [] ∧ x.2.keys = []) (hg : w.heap[g]? = some (.cells cs t fr)) (hc : cs.size ≤ 6) : EVar.Row (fun b => b ≠ g) w L v := by
  by_cases hL : L = []
  · subst hL
    obtain ⟨ao, cap, rfl⟩ := h.form
    exact .nil
  rcases h with ⟨ao, cap, e1, e2⟩ | ⟨b, off, cap, e, _, hl, hcap, hR⟩
  · exact .inl ⟨ao, cap, e1, e2⟩
  · refine .inr ⟨b, off, cap, e, fun hb => ?_, hl, hcap, fun k hk => ?_⟩
    · subst hb
      obtain ⟨ds, h1, h2⟩ := hR 0 (List.length_pos_iff.2 hL)
      have h3 : ds.length = 7 := EVar.len h2
      have h4 := h1 6 ds[6] (List.getElem?_eq_getElem (by omega))
      rw [cell_of_blk hg, Array.getElem?_eq_none (by omega)] at h4
      cases h4
    · obtain ⟨ds, h1, h2⟩ := hR k hk
      exact ⟨ds, h1, evar_flat h2 (hf _ (List.getElem_mem ..))⟩
theorem evar_in {L : List VR} {ao : Option Addr} {n cap : Nat} (h : EVar.Row B w L (.slice ao n cap)) {k : Nat} (hk : k < L.length) :
    ∃ b o, ao = some ⟨b, o, none⟩ ∧ b < w.heap.size ∧ w.cell? ⟨b, o + k * 7, none⟩ = some (.string L[k].1) ∧ w.cell? ⟨b, o + k * 7 + 3, none⟩ = some (.int .i64 L[k].2.int) ∧ w.cell? ⟨b, o + k * 7 + 4, none⟩ = some (.string L[k].2.str) := by
  obtain ⟨bl, off, cs, rfl, _, h2, hc, hR⟩ := h.at hk
  obtain ⟨c2, rfl, hv⟩ := evar_cells hR
  generalize L[k] = x at *
  obtain ⟨nm, t⟩ := x
  obtain ⟨k', b, n, s, L, ks⟩ := t
  obtain ⟨lv, kv, rfl, hs, hL⟩ := vcellB_mk.1 hv
  exact ⟨bl, off, rfl, h2, hc 0 _ rfl, hc 3 _ rfl, hc 4 _ rfl⟩
theorem evars_in {L : List (List VR)} {lb lo n cap : Nat} (h : EVars.Row B w L (.slice (some ⟨lb, lo, none⟩) n cap)) {k : Nat} (hk : k < L.length) :
    ∃ a c, lb < w.heap.size ∧ w.cell? ⟨lb, lo + k, none⟩ = some (.slice a L[k].length c) ∧ EVar.Row B w L[k] (.slice a L[k].length c) := by
  obtain ⟨bl, off, a, c, e, h1, h2, h3⟩ := evars_at h hk
  injection e with e
  injection e with e1 e2 _
  subst e1 e2
  exact ⟨a, c, h1, h2, h3⟩
end
theorem wpList_buildOne {P : Program} {ops : Array Oper} {rest : List Oper} {o : Oper} {a : Act} {w : World} {Q : Exit → Act → World → Prop} (hg : o.guard = none) (t e : TypeId) (x : Operand) (ho : o.op = .buildSlice t 1 #[(0, x)]) (cells : Array Value) (ie : TypeInfo) (z : Value)
    (hu : P.underlying t = some (.slice e)) (hie : P.info? e = some ie) (hz : ie.zero = some z) (s : Nat) (hsz : ie.size = s) (hsmall : s ≤ 1000) (hpos : 0 < s)
    (hx : (a.eval x).cells = cells) (hcs : cells.size = s) (w1 : World) (hw : w.alloc (.cells cells e) = w1)
    (h : wpList P ops Q rest (a.put o.dst (.slice (some ⟨w.heap.size, 0, none⟩) 1 1)) w1) : wpList P ops Q (o :: rest) a w := by
  subst hw
  exact wpList_build1 hg t e x ho cells ie z hu hie hz s hsz hsmall hpos hx hcs h
theorem AwP.store {W4 W W' : World} {b5 bS g1 g2 : Nat} {ci ce ci' ce' : Value} (h : AwP W4 b5 bS g1 g2 ci ce W) (hw : Wrote b5 (.cells #[.slice (some ⟨bS, 0, none⟩) 2 2, ci', ce'] 25 (0, 0)) W W') : AwP W4 b5 bS g1 g2 ci' ce' W' :=
  AwP.mk1 h.m rfl h.ax h.v1 h.v2 hw h.bl h.l5 h.lS h.l1 h.l2
/-- what lies when Exclude is laid -/
structure AwQ (W4 : World) (b5 bS g1 g2 : Nat) (ci : Value) (e1 e2 lb lo : Nat) (a0 a2 : Option Addr) (k0 k2 : Nat) (W : World) : Prop where
  p : AwP W4 b5 bS g1 g2 ci (.slice (some ⟨e2, 0, none⟩) 1 1) W
  h1 : W.heap[e1]? = some (.cells #[.string sOS, .int .i64 3, .bool false, .int .i64 0, .string sMa, .slice none 0 0, .slice none 0 0] 48 (0, 0))
  h2 : W.heap[e2]? = some (.cells #[.slice (some ⟨e1, 0, none⟩) 1 1] 36 (0, 0))
  r0 : EVar.Row (fun b => b ≠ b5) W (iAB sLi 1) (.slice a0 2 k0)
  r2 : EVar.Row (fun b => b ≠ b5) W (iAB sMa 1) (.slice a2 2 k2)
  y0 : W.cell? ⟨lb, lo, none⟩ = some (.slice a0 2 k0)
  y2 : W.cell? ⟨lb, lo + 2, none⟩ = some (.slice a2 2 k2)
  hl : lb < W.heap.size
  hn : lb ≠ b5
section
variable {W4 W W' : World} {b5 bS g1 g2 e1 e2 lb lo k0 k2 : Nat} {ci ci' : Value} {a0 a2 : Option Addr}
theorem AwQ.next (h : AwQ W4 b5 bS g1 g2 ci e1 e2 lb lo a0 a2 k0 k2 W) (hb : Below W.heap.size W W') : AwQ W4 b5 bS g1 g2 ci e1 e2 lb lo a0 a2 k0 k2 W' :=
  ⟨h.p.next hb, (hb.block _ (Array.getElem?_eq_some_iff.1 h.h1).1).trans h.h1, (hb.block _ (Array.getElem?_eq_some_iff.1 h.h2).1).trans h.h2, h.r0.below hb, h.r2.below hb,
    (hb.cell (p := ⟨lb, lo, none⟩) h.hl).trans h.y0, (hb.cell (p := ⟨lb, lo + 2, none⟩) h.hl).trans h.y2, Nat.lt_of_lt_of_le h.hl hb.size, h.hn⟩
theorem AwQ.store (h : AwQ W4 b5 bS g1 g2 ci e1 e2 lb lo a0 a2 k0 k2 W) (hw : Wrote b5 (.cells #[.slice (some ⟨bS, 0, none⟩) 2 2, ci', .slice (some ⟨e2, 0, none⟩) 1 1] 25 (0, 0)) W W') : AwQ W4 b5 bS g1 g2 ci' e1 e2 lb lo a0 a2 k0 k2 W' :=
  ⟨h.p.store hw, (hw.block _ (obj_ne (n := 7) (k := 3) h.h1 h.p.m rfl rfl (by decide))).trans h.h1, (hw.block _ (obj_ne (n := 1) (k := 3) h.h2 h.p.m rfl rfl (by decide))).trans h.h2,
    h.r0.keep (Nat.le_of_eq hw.size.symm) fun b hb _ => hw.block b hb, h.r2.keep (Nat.le_of_eq hw.size.symm) fun b hb _ => hw.block b hb,
    (cell_of_heap (hw.block lb h.hn)).trans h.y0, (cell_of_heap (hw.block lb h.hn)).trans h.y2, by rw [hw.size]; exact h.hl, h.hn⟩
end
section
variable {W : World} {e1 e2 i1 i2 : Nat}
theorem exB_row1 (h1 : W.heap[e1]? = some (.cells #[.string sOS, .int .i64 3, .bool false, .int .i64 0, .string sMa, .slice none 0 0, .slice none 0 0] 48 (0, 0))) : EVar.Row (fun b => b < W.heap.size) W exB (.slice (some ⟨e1, 0, none⟩) 1 1) :=
  ElemK.Row.ofBlock [[.string sOS, .int .i64 3, .bool false, .int .i64 0, .string sMa, .slice none 0 0, .slice none 0 0]] h1 rfl rfl (fun k h1 h2 => by
    rcases k with _ | k
    · exact evar_mk (x := (sOS, vS sMa)) (vcellB_flat 3 false 0 sMa)
    · simp at h2) (Array.getElem?_eq_some_iff.1 h1).1 (Nat.le_refl _)
theorem exB_row (h1 : W.heap[e1]? = some (.cells #[.string sOS, .int .i64 3, .bool false, .int .i64 0, .string sMa, .slice none 0 0, .slice none 0 0] 48 (0, 0))) (h2 : W.heap[e2]? = some (.cells #[.slice (some ⟨e1, 0, none⟩) 1 1] 36 (0, 0))) : EVars.Row (fun b => b < W.heap.size) W [exB] (.slice (some ⟨e2, 0, none⟩) 1 1) :=
  ElemK.Row.ofBlock [[.slice (some ⟨e1, 0, none⟩) 1 1]] h2 rfl rfl (fun k _ h3 => by
    rcases k with _ | k
    · exact evars_mk (exB_row1 h1)
    · simp at h3) (Array.getElem?_eq_some_iff.1 h2).1 (Nat.le_refl _)
theorem inB_row (h1 : W.heap[i1]? = some (.cells #[.string sOS, .int .i64 3, .bool false, .int .i64 0, .string sMa, .slice none 0 0, .slice none 0 0, .string sXX, .int .i64 2, .bool false, .int .i64 1, .string ⟨#[]⟩, .slice none 0 0, .slice none 0 0] 48 (0, 0))) (h2 : W.heap[i2]? = some (.cells #[.slice (some ⟨i1, 0, none⟩) 2 2] 36 (0, 0))) : EVars.Row (fun b => b < W.heap.size) W [inB] (.slice (some ⟨i2, 0, none⟩) 1 1) :=
  ElemK.Row.ofBlock [[.slice (some ⟨i1, 0, none⟩) 2 2]] h2 rfl rfl (fun k _ h3 => by
    rcases k with _ | k
    · exact evars_mk (ElemK.Row.ofBlock [[.string sOS, .int .i64 3, .bool false, .int .i64 0, .string sMa, .slice none 0 0, .slice none 0 0], [.string sXX, .int .i64 2, .bool false, .int .i64 1, .string ⟨#[]⟩, .slice none 0 0, .slice none 0 0]] h1 rfl rfl (fun k h1 h2 => by
        rcases k with _ | _ | k
        · exact evar_mk (x := (sOS, vS sMa)) (vcellB_flat 3 false 0 sMa)
        · exact evar_mk (x := (sXX, vI 1)) (vcellB_flat 2 false 1 ⟨#[]⟩)
        · simp at h2; omega) (Array.getElem?_eq_some_iff.1 h1).1 (Nat.le_refl _))
    · simp at h3) (Array.getElem?_eq_some_iff.1 h2).1 (Nat.le_refl _)
end
theorem iAB_wf {a : ByteArray} {b : Int} (ha : a.size ≤ 9223372036854775807) (hb : isI b) : wfVars (iAB a b) :=
  flat_vars (by decide) (flat_wf (by unfold isI; decide) hb (by decide)) (flat_vars (by decide) (flat_wf (by unfold isI; decide) (by unfold isI; decide) ha) nil_vars (by decide)) (by show 1 ≤ 1000; decide)
theorem aw_ok : SufOk (iAB sLi 1) where
  n := by decide
  nm := by decide
  wf := fun x hx => ((iAB_wf (by decide) (by unfold isI; decide)).2 x hx).2
  lit := by decide +kernel
theorem Tryz.infoAxis : (Tryz.prog.info? 50).map (fun i => (i.zero, i.size, i.bytes)) = some (some (.agg #[.string ⟨#[]⟩, .slice none 0 0]), 2, 40) := by kernel_rfl
theorem Tryz.infoAxis' : ∃ i, Tryz.prog.info? 50 = some i ∧ i.zero = some (.agg #[.string ⟨#[]⟩, .slice none 0 0]) ∧ i.size = 2 ∧ i.bytes = 40 := info_parts Tryz.infoAxis
set_option maxRecDepth 100000 in
set_option maxHeartbeats 6400000 in
theorem awake_any (w : World) (hp : Pow w) : Calls Tryz.prog 9 #[] w (LawPost w) := by
  have HP := Lib.hid hp
  obtain ⟨W4, hW4⟩ : ∃ W4, (((w.alloc (.cells #[.int .i64 2, .bool false, .int .i64 1, .string ⟨#[]⟩, .slice none 0 0, .slice none 0 0] 46 (0, 0))).alloc (.cells #[.int .i64 2, .bool false, .int .i64 2, .string ⟨#[]⟩, .slice none 0 0, .slice none 0 0] 46 (0, 0))).alloc (.cells #[.int .i64 3, .bool false, .int .i64 0, .string sLi, .slice none 0 0, .slice none 0 0] 46 (0, 0))).alloc (.cells #[.int .i64 3, .bool false, .int .i64 0, .string sMa, .slice none 0 0, .slice none 0 0] 46 (0, 0)) = W4 := ⟨_, rfl⟩
  have HZ4 : Hid (W4.heap.size = w.heap.size + 4) := by unfold Hid; rw [← hW4]; simp
  have HB4 : Hid (Below w.heap.size w W4) := by unfold Hid; rw [← hW4]; exact ((((Below.refl _ w).alloc (Nat.le_refl _) _).alloc (by simp) _).alloc (by first | (simp; done) | (simp; omega)) _).alloc (by first | (simp; done) | (simp; omega)) _
  have HK0 : Hid (W4.heap[w.heap.size]? = some (.cells #[.int .i64 2, .bool false, .int .i64 1, .string ⟨#[]⟩, .slice none 0 0, .slice none 0 0] 46 (0, 0))) := by unfold Hid; rw [← hW4]; exact (hp_old (by first | (simp; done) | (simp; omega))).trans ((hp_old (by first | (simp; done) | (simp; omega))).trans ((hp_old (by simp)).trans (hp_new rfl)))
  have HK1 : Hid (W4.heap[w.heap.size + 1]? = some (.cells #[.int .i64 2, .bool false, .int .i64 2, .string ⟨#[]⟩, .slice none 0 0, .slice none 0 0] 46 (0, 0))) := by unfold Hid; rw [← hW4]; exact (hp_old (by first | (simp; done) | (simp; omega))).trans ((hp_old (by simp)).trans (hp_new (by simp)))
  have HK2 : Hid (W4.heap[w.heap.size + 1 + 1]? = some (.cells #[.int .i64 3, .bool false, .int .i64 0, .string sLi, .slice none 0 0, .slice none 0 0] 46 (0, 0))) := by unfold Hid; rw [← hW4]; exact (hp_old (by simp)).trans (hp_new (by simp))
  have HK3 : Hid (W4.heap[w.heap.size + 1 + 1 + 1]? = some (.cells #[.int .i64 3, .bool false, .int .i64 0, .string sMa, .slice none 0 0, .slice none 0 0] 46 (0, 0))) := by unfold Hid; rw [← hW4]; exact hp_new (by simp)
  have HS : Hid (∀ W' : World, Below W4.heap.size W4 W' → W'.cell? ⟨w.heap.size, 0, none⟩ = some (.int .i64 2) ∧ W'.cell? ⟨w.heap.size, 1, none⟩ = some (.bool false) ∧ W'.cell? ⟨w.heap.size, 2, none⟩ = some (.int .i64 1) ∧ W'.cell? ⟨w.heap.size, 3, none⟩ = some (.string ⟨#[]⟩) ∧ W'.cell? ⟨w.heap.size, 4, none⟩ = some (.slice none 0 0) ∧ W'.cell? ⟨w.heap.size, 5, none⟩ = some (.slice none 0 0) ∧ W'.cell? ⟨w.heap.size + 1, 0, none⟩ = some (.int .i64 2) ∧ W'.cell? ⟨w.heap.size + 1, 1, none⟩ = some (.bool false) ∧ W'.cell? ⟨w.heap.size + 1, 2, none⟩ = some (.int .i64 2) ∧ W'.cell? ⟨w.heap.size + 1, 3, none⟩ = some (.string ⟨#[]⟩) ∧ W'.cell? ⟨w.heap.size + 1, 4, none⟩ = some (.slice none 0 0) ∧ W'.cell? ⟨w.heap.size + 1, 5, none⟩ = some (.slice none 0 0) ∧ W'.cell? ⟨w.heap.size + 1 + 1, 0, none⟩ = some (.int .i64 3) ∧ W'.cell? ⟨w.heap.size + 1 + 1, 1, none⟩ = some (.bool false) ∧ W'.cell? ⟨w.heap.size + 1 + 1, 2, none⟩ = some (.int .i64 0) ∧ W'.cell? ⟨w.heap.size + 1 + 1, 3, none⟩ = some (.string sLi) ∧ W'.cell? ⟨w.heap.size + 1 + 1, 4, none⟩ = some (.slice none 0 0) ∧ W'.cell? ⟨w.heap.size + 1 + 1, 5, none⟩ = some (.slice none 0 0) ∧ W'.cell? ⟨w.heap.size + 1 + 1 + 1, 0, none⟩ = some (.int .i64 3) ∧ W'.cell? ⟨w.heap.size + 1 + 1 + 1, 1, none⟩ = some (.bool false) ∧ W'.cell? ⟨w.heap.size + 1 + 1 + 1, 2, none⟩ = some (.int .i64 0) ∧ W'.cell? ⟨w.heap.size + 1 + 1 + 1, 3, none⟩ = some (.string sMa) ∧ W'.cell? ⟨w.heap.size + 1 + 1 + 1, 4, none⟩ = some (.slice none 0 0) ∧ W'.cell? ⟨w.heap.size + 1 + 1 + 1, 5, none⟩ = some (.slice none 0 0)) := fun W' hb => by
    have hz := HZ4.out
    have q0 := (hb.block (w.heap.size) (by omega)).trans HK0.out
    have q1 := (hb.block (w.heap.size + 1) (by omega)).trans HK1.out
    have q2 := (hb.block (w.heap.size + 1 + 1) (by omega)).trans HK2.out
    have q3 := (hb.block (w.heap.size + 1 + 1 + 1) (by omega)).trans HK3.out
    exact ⟨cell_of_blk q0 0, cell_of_blk q0 1, cell_of_blk q0 2, cell_of_blk q0 3, cell_of_blk q0 4, cell_of_blk q0 5, cell_of_blk q1 0, cell_of_blk q1 1, cell_of_blk q1 2, cell_of_blk q1 3, cell_of_blk q1 4, cell_of_blk q1 5, cell_of_blk q2 0, cell_of_blk q2 1, cell_of_blk q2 2, cell_of_blk q2 3, cell_of_blk q2 4, cell_of_blk q2 5, cell_of_blk q3 0, cell_of_blk q3 1, cell_of_blk q3 2, cell_of_blk q3 3, cell_of_blk q3 4, cell_of_blk q3 5⟩
  have HW4 := Lib.hid hW4
  have HDR : Hid (Below W4.heap.size W4 W4.drew) := (Below.refl _ _).drew
  obtain ⟨iA, hiA, hzA, hnA, hyA⟩ := Tryz.infoAxis'
  have HIA := Lib.hid hiA
  clear hW4 hiA hp hyA HK0 HK1 HK2 HK3
  go_enter Tryz.func9, Tryz.ntmps9
  go_upto_region 3 with fail
  rw [HW4.out]
  clear HW4
  as_aux_lemma =>
  go_cut [5] (fun t5 W => ∃ b5 bS g1 g2, t5 = .pointer (some ⟨b5, 0, none⟩) ∧ AwP W4 b5 bS g1 g2 (.slice none 0 0) (.slice none 0 0) W)
  · as_aux_lemma =>
    refine wp_region_Z (S := fun W' : World => W'.cell? ⟨w.heap.size, 0, none⟩ = some (.int .i64 2) ∧ W'.cell? ⟨w.heap.size, 1, none⟩ = some (.bool false) ∧ W'.cell? ⟨w.heap.size, 2, none⟩ = some (.int .i64 1) ∧ W'.cell? ⟨w.heap.size, 3, none⟩ = some (.string ⟨#[]⟩) ∧ W'.cell? ⟨w.heap.size, 4, none⟩ = some (.slice none 0 0) ∧ W'.cell? ⟨w.heap.size, 5, none⟩ = some (.slice none 0 0) ∧ W'.cell? ⟨w.heap.size + 1, 0, none⟩ = some (.int .i64 2) ∧ W'.cell? ⟨w.heap.size + 1, 1, none⟩ = some (.bool false) ∧ W'.cell? ⟨w.heap.size + 1, 2, none⟩ = some (.int .i64 2) ∧ W'.cell? ⟨w.heap.size + 1, 3, none⟩ = some (.string ⟨#[]⟩) ∧ W'.cell? ⟨w.heap.size + 1, 4, none⟩ = some (.slice none 0 0) ∧ W'.cell? ⟨w.heap.size + 1, 5, none⟩ = some (.slice none 0 0) ∧ W'.cell? ⟨w.heap.size + 1 + 1, 0, none⟩ = some (.int .i64 3) ∧ W'.cell? ⟨w.heap.size + 1 + 1, 1, none⟩ = some (.bool false) ∧ W'.cell? ⟨w.heap.size + 1 + 1, 2, none⟩ = some (.int .i64 0) ∧ W'.cell? ⟨w.heap.size + 1 + 1, 3, none⟩ = some (.string sLi) ∧ W'.cell? ⟨w.heap.size + 1 + 1, 4, none⟩ = some (.slice none 0 0) ∧ W'.cell? ⟨w.heap.size + 1 + 1, 5, none⟩ = some (.slice none 0 0) ∧ W'.cell? ⟨w.heap.size + 1 + 1 + 1, 0, none⟩ = some (.int .i64 3) ∧ W'.cell? ⟨w.heap.size + 1 + 1 + 1, 1, none⟩ = some (.bool false) ∧ W'.cell? ⟨w.heap.size + 1 + 1 + 1, 2, none⟩ = some (.int .i64 0) ∧ W'.cell? ⟨w.heap.size + 1 + 1 + 1, 3, none⟩ = some (.string sMa) ∧ W'.cell? ⟨w.heap.size + 1 + 1 + 1, 4, none⟩ = some (.slice none 0 0) ∧ W'.cell? ⟨w.heap.size + 1 + 1 + 1, 5, none⟩ = some (.slice none 0 0)) 9 (by kernel_rfl) (HS.out _ HDR.out) (fun hHeld => ?_)
    refine wpAnyZ_takeL (i := 0) (v := ?_) rfl (by kernel_rfl) (by kernel_rfl) (by kernel_rfl) (by kernel_rfl) (fun _ _ _ h => h) (Or.inl ⟨by rfl, ?_⟩) (by assumption) ?_
    rotate_left
    · (intro w hSw; (try dsimp only at hSw); go_simp; try with_reducible rfl)
    try simp only [Act.put, List.setIfInBounds_toArray, List.set_cons_zero, List.set_cons_succ]
    refine wpAnyZ_takeL (i := 1) (v := ?_) rfl (by kernel_rfl) (by kernel_rfl) (by kernel_rfl) (by kernel_rfl) (fun _ _ _ h => h) (Or.inl ⟨by rfl, ?_⟩) (by assumption) ?_
    rotate_left
    · (intro w hSw; (try dsimp only at hSw); go_simp; try with_reducible rfl)
    try simp only [Act.put, List.setIfInBounds_toArray, List.set_cons_zero, List.set_cons_succ]
    refine wpAnyZ_takeL (i := 3) (v := ?_) rfl (by kernel_rfl) (by kernel_rfl) (by kernel_rfl) (by kernel_rfl) (fun _ _ _ h => h) (Or.inl ⟨by rfl, ?_⟩) (by assumption) ?_
    rotate_left
    · (intro w hSw; (try dsimp only at hSw); go_simp; try with_reducible rfl)
    try simp only [Act.put, List.setIfInBounds_toArray, List.set_cons_zero, List.set_cons_succ]
    refine wpAnyZ_takeL (i := 4) (v := ?_) rfl (by kernel_rfl) (by kernel_rfl) (by kernel_rfl) (by kernel_rfl) (fun _ _ _ h => h) (Or.inl ⟨by rfl, ?_⟩) (by assumption) ?_
    rotate_left
    · (intro w hSw; (try dsimp only at hSw); go_simp; try with_reducible rfl)
    try simp only [Act.put, List.setIfInBounds_toArray, List.set_cons_zero, List.set_cons_succ]
    obtain ⟨wd, hwd⟩ : ∃ wd, W4.drew = wd := ⟨_, rfl⟩
    have HB := HDR
    rw [hwd] at HB ⊢
    clear hwd HDR hHeld
    refine wpAnyZ_two (i := 2) (j := 8) (by kernel_rfl) rfl rfl (fun K hK => ?_) (fun K hK => ?_)
    · go_simp
      go_at_call 23
      refine (axis2_any _ _ _ _ _ _ _ _ _ _).mono ?_
      rintro e wc1 ⟨g1, rfl, hl1, _, hh1, hb1⟩
      have HB0 := HB
      replace HB : Hid (Below W4.heap.size W4 wc1) := HB.out.trans (hb1.mono HB.out.size)
      have HP1 := Lib.hid hh1
      have HL1 : Hid (W4.heap.size ≤ g1) := Nat.le_trans HB0.out.size hl1
      clear hb1 hl1 hh1 HB0
      refine hK.out _ _ (fun _ => HS.out _ HB.out) (fun hHeld => ?_)
      replace hHeld := hHeld (by decide)
      clear hK K
      try simp only [Act.put, List.setIfInBounds_toArray, List.set_cons_zero, List.set_cons_succ]
      refine wpAnyZ_two (i := 5) (j := 8) (by kernel_rfl) rfl rfl (fun K hK => ?_) (fun K hK => ?_)
      · go_simp
        go_at_call 23
        refine (axis2_any _ _ _ _ _ _ _ _ _ _).mono ?_
        rintro e wc2 ⟨g2, rfl, hl2, _, hh2, hb2⟩
        have HB0 := HB
        replace HB : Hid (Below W4.heap.size W4 wc2) := HB.out.trans (hb2.mono HB.out.size)
        replace HP1 := Lib.hid ((hb2.block _ (Array.getElem?_eq_some_iff.1 HP1.out).1).trans HP1.out)
        have HP2 := Lib.hid hh2
        have HL2 : Hid (W4.heap.size ≤ g2) := Nat.le_trans HB0.out.size hl2
        clear hb2 hl2 hh2 HB0
        refine hK.out _ _ (fun _ => HS.out _ HB.out) (fun hHeld => ?_)
        replace hHeld := hHeld (by decide)
        clear hK K
        try simp only [Act.put, List.setIfInBounds_toArray, List.set_cons_zero, List.set_cons_succ]
        refine wpAnyZ_two (i := 6) (j := 8) (by kernel_rfl) rfl rfl (fun K hK => ?_) (fun K hK => ?_)
        · rw [if_pos (by rfl)]
          refine wp_buildTwo 22 50 _ _ rfl #[.string sOS, .slice (some ⟨g1, 0, none⟩) 2 2] #[.string sGO, .slice (some ⟨g2, 0, none⟩) 2 2] #[.string sOS, .slice (some ⟨g1, 0, none⟩) 2 2, .string sGO, .slice (some ⟨g2, 0, none⟩) 2 2] iA _ Tryz.underlying22 HIA.out hzA 2 hnA (by decide) (by decide) rfl rfl rfl rfl rfl ?_
          obtain ⟨w6, hw6⟩ : ∃ w6, World.alloc wc2 (.cells #[.string sOS, .slice (some ⟨g1, 0, none⟩) 2 2, .string sGO, .slice (some ⟨g2, 0, none⟩) 2 2] 50 (0, 0)) = w6 := ⟨_, rfl⟩
          have hb6 : Below wc2.heap.size wc2 w6 := by rw [← hw6]; exact (Below.refl _ _).alloc (Nat.le_refl _) _
          have HPS : Hid (w6.heap[wc2.heap.size]? = some (.cells #[.string sOS, .slice (some ⟨g1, 0, none⟩) 2 2, .string sGO, .slice (some ⟨g2, 0, none⟩) 2 2] 50 (0, 0))) := by unfold Hid; rw [← hw6]; exact hp_new rfl
          have HLS : Hid (W4.heap.size ≤ wc2.heap.size) := HB.out.size
          rw [hw6]
          have HB0 := HB
          replace HB : Hid (Below W4.heap.size W4 w6) := HB.out.trans (hb6.mono HB.out.size)
          replace HP1 := Lib.hid ((hb6.block _ (Array.getElem?_eq_some_iff.1 HP1.out).1).trans HP1.out)
          replace HP2 := Lib.hid ((hb6.block _ (Array.getElem?_eq_some_iff.1 HP2.out).1).trans HP2.out)
          clear hb6 hw6 HB0
          refine hK.out _ _ (fun _ => HS.out _ HB.out) (fun hHeld => ?_)
          replace hHeld := hHeld (by decide)
          clear hK K
          try simp only [Act.put, List.setIfInBounds_toArray, List.set_cons_zero, List.set_cons_succ]
          refine wpAnyZ_takeL (i := 7) (v := ?_) rfl (by kernel_rfl) (by kernel_rfl) (by kernel_rfl) (by kernel_rfl) (fun _ _ _ h => h) (Or.inl ⟨by rfl, ?_⟩) (by assumption) ?_
          rotate_left
          · (intro w hSw; (try dsimp only at hSw); go_simp; try with_reducible rfl)
          try simp only [Act.put, List.setIfInBounds_toArray, List.set_cons_zero, List.set_cons_succ]
          refine wpAnyZ_oneL (i := 8) (by kernel_rfl) rfl (fun K hK => ?_)
          go_simp
          obtain ⟨w8, hw8⟩ : ∃ w8, World.alloc w6 (.cells #[.slice none 0 0, .slice none 0 0, .slice none 0 0] 25 (0, 0)) = w8 := ⟨_, rfl⟩
          have hb8 : Below w6.heap.size w6 w8 := by rw [← hw8]; exact (Below.refl _ _).alloc (Nat.le_refl _) _
          have HP5 : Hid (w8.heap[w6.heap.size]? = some (.cells #[.slice none 0 0, .slice none 0 0, .slice none 0 0] 25 (0, 0))) := by unfold Hid; rw [← hw8]; exact hp_new rfl
          have HL5 : Hid (W4.heap.size ≤ w6.heap.size) := HB.out.size
          rw [hw8]
          have HB0 := HB
          replace HB : Hid (Below W4.heap.size W4 w8) := HB.out.trans (hb8.mono HB.out.size)
          replace HP1 := Lib.hid ((hb8.block _ (Array.getElem?_eq_some_iff.1 HP1.out).1).trans HP1.out)
          replace HP2 := Lib.hid ((hb8.block _ (Array.getElem?_eq_some_iff.1 HP2.out).1).trans HP2.out)
          replace HPS := Lib.hid ((hb8.block _ (Array.getElem?_eq_some_iff.1 HPS.out).1).trans HPS.out)
          clear hb8 hw8 HB0
          refine hK.out _ _ (fun _ => HS.out _ HB.out) (fun hHeld => ?_)
          replace hHeld := hHeld (by decide)
          clear hK K
          try simp only [Act.put, List.setIfInBounds_toArray, List.set_cons_zero, List.set_cons_succ]
          refine wpAnyZ_oneL (i := 9) (by kernel_rfl) rfl (fun K hK => ?_)
          rw [if_pos (by rfl)]
          refine wp_store_row 25 _ _ rfl w6.heap.size rfl 25 _ HP5.out (.agg #[.slice (some ⟨wc2.heap.size, 0, none⟩) 2 2, .slice none 0 0, .slice none 0 0]) rfl (by kernel_rfl) rfl rfl ?_
          intro w9 hw9
          have HP : Hid (AwP W4 (w6.heap.size) (wc2.heap.size) g1 g2 (.slice none 0 0) (.slice none 0 0) w9) := AwP.mk1 HP5.out rfl HPS.out HP1.out HP2.out hw9 HB.out HL5.out HLS.out HL1.out HL2.out
          refine hK.out _ _ (fun h => absurd h (by decide)) (fun _ => ?_)
          clear hK K
          try simp only [Act.put]
          clear hw9
          refine wpAnyZ_done (by kernel_rfl) ?_ _
          go_wp2_with fail
          go_meet
          exact ⟨_, _, _, _, rfl, HP.out⟩
        · go_simp
          obtain ⟨w8, hw8⟩ : ∃ w8, World.alloc wc2 (.cells #[.slice none 0 0, .slice none 0 0, .slice none 0 0] 25 (0, 0)) = w8 := ⟨_, rfl⟩
          have hb8 : Below wc2.heap.size wc2 w8 := by rw [← hw8]; exact (Below.refl _ _).alloc (Nat.le_refl _) _
          have HP5 : Hid (w8.heap[wc2.heap.size]? = some (.cells #[.slice none 0 0, .slice none 0 0, .slice none 0 0] 25 (0, 0))) := by unfold Hid; rw [← hw8]; exact hp_new rfl
          have HL5 : Hid (W4.heap.size ≤ wc2.heap.size) := HB.out.size
          rw [hw8]
          have HB0 := HB
          replace HB : Hid (Below W4.heap.size W4 w8) := HB.out.trans (hb8.mono HB.out.size)
          replace HP1 := Lib.hid ((hb8.block _ (Array.getElem?_eq_some_iff.1 HP1.out).1).trans HP1.out)
          replace HP2 := Lib.hid ((hb8.block _ (Array.getElem?_eq_some_iff.1 HP2.out).1).trans HP2.out)
          clear hb8 hw8 HB0
          refine hK.out _ _ (fun _ => HS.out _ HB.out) (fun hHeld => ?_)
          replace hHeld := hHeld (by decide)
          clear hK K
          try simp only [Act.put, List.setIfInBounds_toArray, List.set_cons_zero, List.set_cons_succ]
          refine wpAnyZ_oneL (i := 6) (by kernel_rfl) rfl (fun K hK => ?_)
          rw [if_pos (by rfl)]
          refine wp_buildTwo 22 50 _ _ rfl #[.string sOS, .slice (some ⟨g1, 0, none⟩) 2 2] #[.string sGO, .slice (some ⟨g2, 0, none⟩) 2 2] #[.string sOS, .slice (some ⟨g1, 0, none⟩) 2 2, .string sGO, .slice (some ⟨g2, 0, none⟩) 2 2] iA _ Tryz.underlying22 HIA.out hzA 2 hnA (by decide) (by decide) rfl rfl rfl rfl rfl ?_
          obtain ⟨w6, hw6⟩ : ∃ w6, World.alloc w8 (.cells #[.string sOS, .slice (some ⟨g1, 0, none⟩) 2 2, .string sGO, .slice (some ⟨g2, 0, none⟩) 2 2] 50 (0, 0)) = w6 := ⟨_, rfl⟩
          have hb6 : Below w8.heap.size w8 w6 := by rw [← hw6]; exact (Below.refl _ _).alloc (Nat.le_refl _) _
          have HPS : Hid (w6.heap[w8.heap.size]? = some (.cells #[.string sOS, .slice (some ⟨g1, 0, none⟩) 2 2, .string sGO, .slice (some ⟨g2, 0, none⟩) 2 2] 50 (0, 0))) := by unfold Hid; rw [← hw6]; exact hp_new rfl
          have HLS : Hid (W4.heap.size ≤ w8.heap.size) := HB.out.size
          rw [hw6]
          have HB0 := HB
          replace HB : Hid (Below W4.heap.size W4 w6) := HB.out.trans (hb6.mono HB.out.size)
          replace HP1 := Lib.hid ((hb6.block _ (Array.getElem?_eq_some_iff.1 HP1.out).1).trans HP1.out)
          replace HP2 := Lib.hid ((hb6.block _ (Array.getElem?_eq_some_iff.1 HP2.out).1).trans HP2.out)
          replace HP5 := Lib.hid ((hb6.block _ (Array.getElem?_eq_some_iff.1 HP5.out).1).trans HP5.out)
          clear hb6 hw6 HB0
          refine hK.out _ _ (fun _ => HS.out _ HB.out) (fun hHeld => ?_)
          replace hHeld := hHeld (by decide)
          clear hK K
          try simp only [Act.put, List.setIfInBounds_toArray, List.set_cons_zero, List.set_cons_succ]
          refine wpAnyZ_takeL (i := 7) (v := ?_) rfl (by kernel_rfl) (by kernel_rfl) (by kernel_rfl) (by kernel_rfl) (fun _ _ _ h => h) (Or.inl ⟨by rfl, ?_⟩) (by assumption) ?_
          rotate_left
          · (intro w hSw; (try dsimp only at hSw); go_simp; try with_reducible rfl)
          try simp only [Act.put, List.setIfInBounds_toArray, List.set_cons_zero, List.set_cons_succ]
          refine wpAnyZ_oneL (i := 9) (by kernel_rfl) rfl (fun K hK => ?_)
          rw [if_pos (by rfl)]
          refine wp_store_row 25 _ _ rfl wc2.heap.size rfl 25 _ HP5.out (.agg #[.slice (some ⟨w8.heap.size, 0, none⟩) 2 2, .slice none 0 0, .slice none 0 0]) rfl (by kernel_rfl) rfl rfl ?_
          intro w9 hw9
          have HP : Hid (AwP W4 (wc2.heap.size) (w8.heap.size) g1 g2 (.slice none 0 0) (.slice none 0 0) w9) := AwP.mk1 HP5.out rfl HPS.out HP1.out HP2.out hw9 HB.out HL5.out HLS.out HL1.out HL2.out
          refine hK.out _ _ (fun h => absurd h (by decide)) (fun _ => ?_)
          clear hK K
          try simp only [Act.put]
          clear hw9
          refine wpAnyZ_done (by kernel_rfl) ?_ _
          go_wp2_with fail
          go_meet
          exact ⟨_, _, _, _, rfl, HP.out⟩
      · go_simp
        obtain ⟨w8, hw8⟩ : ∃ w8, World.alloc wc1 (.cells #[.slice none 0 0, .slice none 0 0, .slice none 0 0] 25 (0, 0)) = w8 := ⟨_, rfl⟩
        have hb8 : Below wc1.heap.size wc1 w8 := by rw [← hw8]; exact (Below.refl _ _).alloc (Nat.le_refl _) _
        have HP5 : Hid (w8.heap[wc1.heap.size]? = some (.cells #[.slice none 0 0, .slice none 0 0, .slice none 0 0] 25 (0, 0))) := by unfold Hid; rw [← hw8]; exact hp_new rfl
        have HL5 : Hid (W4.heap.size ≤ wc1.heap.size) := HB.out.size
        rw [hw8]
        have HB0 := HB
        replace HB : Hid (Below W4.heap.size W4 w8) := HB.out.trans (hb8.mono HB.out.size)
        replace HP1 := Lib.hid ((hb8.block _ (Array.getElem?_eq_some_iff.1 HP1.out).1).trans HP1.out)
        clear hb8 hw8 HB0
        refine hK.out _ _ (fun _ => HS.out _ HB.out) (fun hHeld => ?_)
        replace hHeld := hHeld (by decide)
        clear hK K
        try simp only [Act.put, List.setIfInBounds_toArray, List.set_cons_zero, List.set_cons_succ]
        refine wpAnyZ_oneL (i := 5) (by kernel_rfl) rfl (fun K hK => ?_)
        go_simp
        go_at_call 23
        refine (axis2_any _ _ _ _ _ _ _ _ _ _).mono ?_
        rintro e wc2 ⟨g2, rfl, hl2, _, hh2, hb2⟩
        have HB0 := HB
        replace HB : Hid (Below W4.heap.size W4 wc2) := HB.out.trans (hb2.mono HB.out.size)
        replace HP1 := Lib.hid ((hb2.block _ (Array.getElem?_eq_some_iff.1 HP1.out).1).trans HP1.out)
        replace HP5 := Lib.hid ((hb2.block _ (Array.getElem?_eq_some_iff.1 HP5.out).1).trans HP5.out)
        have HP2 := Lib.hid hh2
        have HL2 : Hid (W4.heap.size ≤ g2) := Nat.le_trans HB0.out.size hl2
        clear hb2 hl2 hh2 HB0
        refine hK.out _ _ (fun _ => HS.out _ HB.out) (fun hHeld => ?_)
        replace hHeld := hHeld (by decide)
        clear hK K
        try simp only [Act.put, List.setIfInBounds_toArray, List.set_cons_zero, List.set_cons_succ]
        refine wpAnyZ_oneL (i := 6) (by kernel_rfl) rfl (fun K hK => ?_)
        rw [if_pos (by rfl)]
        refine wp_buildTwo 22 50 _ _ rfl #[.string sOS, .slice (some ⟨g1, 0, none⟩) 2 2] #[.string sGO, .slice (some ⟨g2, 0, none⟩) 2 2] #[.string sOS, .slice (some ⟨g1, 0, none⟩) 2 2, .string sGO, .slice (some ⟨g2, 0, none⟩) 2 2] iA _ Tryz.underlying22 HIA.out hzA 2 hnA (by decide) (by decide) rfl rfl rfl rfl rfl ?_
        obtain ⟨w6, hw6⟩ : ∃ w6, World.alloc wc2 (.cells #[.string sOS, .slice (some ⟨g1, 0, none⟩) 2 2, .string sGO, .slice (some ⟨g2, 0, none⟩) 2 2] 50 (0, 0)) = w6 := ⟨_, rfl⟩
        have hb6 : Below wc2.heap.size wc2 w6 := by rw [← hw6]; exact (Below.refl _ _).alloc (Nat.le_refl _) _
        have HPS : Hid (w6.heap[wc2.heap.size]? = some (.cells #[.string sOS, .slice (some ⟨g1, 0, none⟩) 2 2, .string sGO, .slice (some ⟨g2, 0, none⟩) 2 2] 50 (0, 0))) := by unfold Hid; rw [← hw6]; exact hp_new rfl
        have HLS : Hid (W4.heap.size ≤ wc2.heap.size) := HB.out.size
        rw [hw6]
        have HB0 := HB
        replace HB : Hid (Below W4.heap.size W4 w6) := HB.out.trans (hb6.mono HB.out.size)
        replace HP1 := Lib.hid ((hb6.block _ (Array.getElem?_eq_some_iff.1 HP1.out).1).trans HP1.out)
        replace HP2 := Lib.hid ((hb6.block _ (Array.getElem?_eq_some_iff.1 HP2.out).1).trans HP2.out)
        replace HP5 := Lib.hid ((hb6.block _ (Array.getElem?_eq_some_iff.1 HP5.out).1).trans HP5.out)
        clear hb6 hw6 HB0
        refine hK.out _ _ (fun _ => HS.out _ HB.out) (fun hHeld => ?_)
        replace hHeld := hHeld (by decide)
        clear hK K
        try simp only [Act.put, List.setIfInBounds_toArray, List.set_cons_zero, List.set_cons_succ]
        refine wpAnyZ_takeL (i := 7) (v := ?_) rfl (by kernel_rfl) (by kernel_rfl) (by kernel_rfl) (by kernel_rfl) (fun _ _ _ h => h) (Or.inl ⟨by rfl, ?_⟩) (by assumption) ?_
        rotate_left
        · (intro w hSw; (try dsimp only at hSw); go_simp; try with_reducible rfl)
        try simp only [Act.put, List.setIfInBounds_toArray, List.set_cons_zero, List.set_cons_succ]
        refine wpAnyZ_oneL (i := 9) (by kernel_rfl) rfl (fun K hK => ?_)
        rw [if_pos (by rfl)]
        refine wp_store_row 25 _ _ rfl wc1.heap.size rfl 25 _ HP5.out (.agg #[.slice (some ⟨wc2.heap.size, 0, none⟩) 2 2, .slice none 0 0, .slice none 0 0]) rfl (by kernel_rfl) rfl rfl ?_
        intro w9 hw9
        have HP : Hid (AwP W4 (wc1.heap.size) (wc2.heap.size) g1 g2 (.slice none 0 0) (.slice none 0 0) w9) := AwP.mk1 HP5.out rfl HPS.out HP1.out HP2.out hw9 HB.out HL5.out HLS.out HL1.out HL2.out
        refine hK.out _ _ (fun h => absurd h (by decide)) (fun _ => ?_)
        clear hK K
        try simp only [Act.put]
        clear hw9
        refine wpAnyZ_done (by kernel_rfl) ?_ _
        go_wp2_with fail
        go_meet
        exact ⟨_, _, _, _, rfl, HP.out⟩
    · go_simp
      obtain ⟨w8, hw8⟩ : ∃ w8, World.alloc wd (.cells #[.slice none 0 0, .slice none 0 0, .slice none 0 0] 25 (0, 0)) = w8 := ⟨_, rfl⟩
      have hb8 : Below wd.heap.size wd w8 := by rw [← hw8]; exact (Below.refl _ _).alloc (Nat.le_refl _) _
      have HP5 : Hid (w8.heap[wd.heap.size]? = some (.cells #[.slice none 0 0, .slice none 0 0, .slice none 0 0] 25 (0, 0))) := by unfold Hid; rw [← hw8]; exact hp_new rfl
      have HL5 : Hid (W4.heap.size ≤ wd.heap.size) := HB.out.size
      rw [hw8]
      have HB0 := HB
      replace HB : Hid (Below W4.heap.size W4 w8) := HB.out.trans (hb8.mono HB.out.size)
      clear hb8 hw8 HB0
      refine hK.out _ _ (fun _ => HS.out _ HB.out) (fun hHeld => ?_)
      replace hHeld := hHeld (by decide)
      clear hK K
      try simp only [Act.put, List.setIfInBounds_toArray, List.set_cons_zero, List.set_cons_succ]
      refine wpAnyZ_oneL (i := 2) (by kernel_rfl) rfl (fun K hK => ?_)
      go_simp
      go_at_call 23
      refine (axis2_any _ _ _ _ _ _ _ _ _ _).mono ?_
      rintro e wc1 ⟨g1, rfl, hl1, _, hh1, hb1⟩
      have HB0 := HB
      replace HB : Hid (Below W4.heap.size W4 wc1) := HB.out.trans (hb1.mono HB.out.size)
      replace HP5 := Lib.hid ((hb1.block _ (Array.getElem?_eq_some_iff.1 HP5.out).1).trans HP5.out)
      have HP1 := Lib.hid hh1
      have HL1 : Hid (W4.heap.size ≤ g1) := Nat.le_trans HB0.out.size hl1
      clear hb1 hl1 hh1 HB0
      refine hK.out _ _ (fun _ => HS.out _ HB.out) (fun hHeld => ?_)
      replace hHeld := hHeld (by decide)
      clear hK K
      try simp only [Act.put, List.setIfInBounds_toArray, List.set_cons_zero, List.set_cons_succ]
      refine wpAnyZ_oneL (i := 5) (by kernel_rfl) rfl (fun K hK => ?_)
      go_simp
      go_at_call 23
      refine (axis2_any _ _ _ _ _ _ _ _ _ _).mono ?_
      rintro e wc2 ⟨g2, rfl, hl2, _, hh2, hb2⟩
      have HB0 := HB
      replace HB : Hid (Below W4.heap.size W4 wc2) := HB.out.trans (hb2.mono HB.out.size)
      replace HP1 := Lib.hid ((hb2.block _ (Array.getElem?_eq_some_iff.1 HP1.out).1).trans HP1.out)
      replace HP5 := Lib.hid ((hb2.block _ (Array.getElem?_eq_some_iff.1 HP5.out).1).trans HP5.out)
      have HP2 := Lib.hid hh2
      have HL2 : Hid (W4.heap.size ≤ g2) := Nat.le_trans HB0.out.size hl2
      clear hb2 hl2 hh2 HB0
      refine hK.out _ _ (fun _ => HS.out _ HB.out) (fun hHeld => ?_)
      replace hHeld := hHeld (by decide)
      clear hK K
      try simp only [Act.put, List.setIfInBounds_toArray, List.set_cons_zero, List.set_cons_succ]
      refine wpAnyZ_oneL (i := 6) (by kernel_rfl) rfl (fun K hK => ?_)
      rw [if_pos (by rfl)]
      refine wp_buildTwo 22 50 _ _ rfl #[.string sOS, .slice (some ⟨g1, 0, none⟩) 2 2] #[.string sGO, .slice (some ⟨g2, 0, none⟩) 2 2] #[.string sOS, .slice (some ⟨g1, 0, none⟩) 2 2, .string sGO, .slice (some ⟨g2, 0, none⟩) 2 2] iA _ Tryz.underlying22 HIA.out hzA 2 hnA (by decide) (by decide) rfl rfl rfl rfl rfl ?_
      obtain ⟨w6, hw6⟩ : ∃ w6, World.alloc wc2 (.cells #[.string sOS, .slice (some ⟨g1, 0, none⟩) 2 2, .string sGO, .slice (some ⟨g2, 0, none⟩) 2 2] 50 (0, 0)) = w6 := ⟨_, rfl⟩
      have hb6 : Below wc2.heap.size wc2 w6 := by rw [← hw6]; exact (Below.refl _ _).alloc (Nat.le_refl _) _
      have HPS : Hid (w6.heap[wc2.heap.size]? = some (.cells #[.string sOS, .slice (some ⟨g1, 0, none⟩) 2 2, .string sGO, .slice (some ⟨g2, 0, none⟩) 2 2] 50 (0, 0))) := by unfold Hid; rw [← hw6]; exact hp_new rfl
      have HLS : Hid (W4.heap.size ≤ wc2.heap.size) := HB.out.size
      rw [hw6]
      have HB0 := HB
      replace HB : Hid (Below W4.heap.size W4 w6) := HB.out.trans (hb6.mono HB.out.size)
      replace HP1 := Lib.hid ((hb6.block _ (Array.getElem?_eq_some_iff.1 HP1.out).1).trans HP1.out)
      replace HP2 := Lib.hid ((hb6.block _ (Array.getElem?_eq_some_iff.1 HP2.out).1).trans HP2.out)
      replace HP5 := Lib.hid ((hb6.block _ (Array.getElem?_eq_some_iff.1 HP5.out).1).trans HP5.out)
      clear hb6 hw6 HB0
      refine hK.out _ _ (fun _ => HS.out _ HB.out) (fun hHeld => ?_)
      replace hHeld := hHeld (by decide)
      clear hK K
      try simp only [Act.put, List.setIfInBounds_toArray, List.set_cons_zero, List.set_cons_succ]
      refine wpAnyZ_takeL (i := 7) (v := ?_) rfl (by kernel_rfl) (by kernel_rfl) (by kernel_rfl) (by kernel_rfl) (fun _ _ _ h => h) (Or.inl ⟨by rfl, ?_⟩) (by assumption) ?_
      rotate_left
      · (intro w hSw; (try dsimp only at hSw); go_simp; try with_reducible rfl)
      try simp only [Act.put, List.setIfInBounds_toArray, List.set_cons_zero, List.set_cons_succ]
      refine wpAnyZ_oneL (i := 9) (by kernel_rfl) rfl (fun K hK => ?_)
      rw [if_pos (by rfl)]
      refine wp_store_row 25 _ _ rfl wd.heap.size rfl 25 _ HP5.out (.agg #[.slice (some ⟨wc2.heap.size, 0, none⟩) 2 2, .slice none 0 0, .slice none 0 0]) rfl (by kernel_rfl) rfl rfl ?_
      intro w9 hw9
      have HP : Hid (AwP W4 (wd.heap.size) (wc2.heap.size) g1 g2 (.slice none 0 0) (.slice none 0 0) w9) := AwP.mk1 HP5.out rfl HPS.out HP1.out HP2.out hw9 HB.out HL5.out HLS.out HL1.out HL2.out
      refine hK.out _ _ (fun h => absurd h (by decide)) (fun _ => ?_)
      clear hK K
      try simp only [Act.put]
      clear hw9
      refine wpAnyZ_done (by kernel_rfl) ?_ _
      go_wp2_with fail
      go_meet
      exact ⟨_, _, _, _, rfl, HP.out⟩
  · obtain ⟨b5, bS, g1, g2, rfl, hP⟩ := hcut
    have HPM := Lib.hid hP
    obtain ⟨c0, c1, c2⟩ : wc.cell? ⟨b5, 0, none⟩ = some (.slice (some ⟨bS, 0, none⟩) 2 2) ∧ wc.cell? ⟨b5, 1, none⟩ = some (.slice none 0 0) ∧ wc.cell? ⟨b5, 2, none⟩ = some (.slice none 0 0) := ⟨cell_of_blk hP.m 0, cell_of_blk hP.m 1, cell_of_blk hP.m 2⟩
    have XA : Hid (Calls Tryz.prog 10 #[.agg #[.slice (some ⟨bS, 0, none⟩) 2 2, .slice none 0 0, .slice none 0 0]] wc fun e w' => ∃ lb lo lc, e = .returned (.tuple #[.slice (some ⟨lb, lo, none⟩) 4 lc, .int .i64 0]) ∧ EVars.Row (fun _ => True) w' [iAB sLi 1, iAB sLi 2, iAB sMa 1, iAB sMa 2] (.slice (some ⟨lb, lo, none⟩) 4 lc) ∧ Below wc.heap.size wc w') := (mexpand_any mA mA_wf _ wc (hP.mat (I := []) (E := []) rfl rfl (.inl ⟨none, 0, rfl, rfl⟩) (.inl ⟨none, 0, rfl, rfl⟩)) (by decide)).mono (by
      rintro e w' ⟨r, rfl, hr, hb⟩
      rw [aw_lA] at hr
      rw [aw_eA]
      obtain ⟨ao, cap, rfl⟩ := hr.form
      obtain ⟨lb, lo, a, c, rfl, _⟩ := evars_at hr (k := 0) (by decide)
      exact ⟨lb, lo, cap, rfl, hr, hb⟩)
    clear hP HDR HZ4 hzA hnA HIA
    as_aux_lemma =>
    go_wp2_with fail
    refine XA.out.mono ?_
    rintro e w6 ⟨lb, lo, lc, rfl, hr, hb⟩
    have hP6 := HPM.out.next hb
    have HP6 := Lib.hid hP6
    have HR6 := Lib.hid hr
    obtain ⟨a0, k0, hlb, y0, hr0⟩ := evars_in hr (k := 0) (by decide)
    obtain ⟨a1, k1, _, y1', hr1⟩ := evars_in hr (k := 1) (by decide)
    obtain ⟨a2, k2, _, y2, hr2⟩ := evars_in hr (k := 2) (by decide)
    obtain ⟨a3, k3, _, y3, _⟩ := evars_in hr (k := 3) (by decide)
    have HNL : Hid (lb ≠ b5) := fun e => by
      subst e
      rw [cell_of_blk hP6.m, Array.getElem?_eq_none (by simp)] at y3
      cases y3
    obtain ⟨b1, o1, rfl, _, x0', x3', x4'⟩ := evar_in hr1 (k := 0) (by decide)
    obtain ⟨b1', o1', e1, _, z0', z3', z4'⟩ := evar_in hr1 (k := 1) (by decide)
    injection e1 with e1
    injection e1 with e1 e2 _
    subst e1 e2
    have HR0 := Lib.hid (evar_apart hr0 (fun x hx => by
      rcases List.mem_cons.1 hx with rfl | hx
      · exact ⟨rfl, rfl⟩
      · rw [List.mem_singleton.1 hx]; exact ⟨rfl, rfl⟩) hP6.m (by simp))
    have HR2 := Lib.hid (evar_apart hr2 (fun x hx => by
      rcases List.mem_cons.1 hx with rfl | hx
      · exact ⟨rfl, rfl⟩
      · rw [List.mem_singleton.1 hx]; exact ⟨rfl, rfl⟩) hP6.m (by simp))
    have HLB := Lib.hid hlb
    have y1 : w6.cell? ⟨lb, lo + 1, none⟩ = some (.slice (some ⟨b1, o1, none⟩) 2 k1) := y1'
    have x0 : w6.cell? ⟨b1, o1, none⟩ = some (.string ⟨#[103, 111]⟩) := x0'
    have x3 : w6.cell? ⟨b1, o1 + 3, none⟩ = some (.int .i64 2) := by rw [Nat.zero_mul, Nat.add_zero] at x3'; exact x3'
    have z4 : w6.cell? ⟨b1, o1 + 11, none⟩ = some (.string ⟨#[108, 105, 110, 117, 120]⟩) := z4'
    have HY0 : Hid (w6.cell? ⟨lb, lo, none⟩ = some (.slice a0 2 k0)) := y0
    have HY2 : Hid (w6.cell? ⟨lb, lo + 2, none⟩ = some (.slice a2 2 k2)) := y2
    clear y0 y2 y3 y1' z0' z3' z4' x0' x3' x4' hr hr0 hr1 hr2 XA c0 c1 c2 hP6 hb hlb HPM HR6
    as_aux_lemma =>
    go_upto_region 5 with fail
    go_cut [70] (fun s70 wx => s70 = .bool false ∧ w6 = wx)
    · as_aux_lemma =>
      go_wp2_with fail
      go_meet
      exact ⟨rfl, rfl⟩
    obtain ⟨rfl, rfl⟩ := hcut
    clear y1 x0 x3 z4
    --STOPb
    have hs6 := HS.out _ HP6.out.bl
    obtain ⟨n00, n01, n02, n03, n04, n05, n10, n11, n12, n13, n14, n15, n20, n21, n22, n23, n24, n25, n30, n31, n32, n33, n34, n35⟩ := hs6
    obtain ⟨iR, hiR, hzR, hnR, hyR⟩ := Tryz.vinfoVar'
    obtain ⟨iV, hiV, hzV, hnV, hyV⟩ := Tryz.infoVars'
    have HIR := Lib.hid hiR
    have HIV := Lib.hid hiV
    obtain ⟨wa, hwa⟩ : ∃ wa, w6.alloc (.cells #[.string sOS, .int .i64 3, .bool false, .int .i64 0, .string sMa, .slice none 0 0, .slice none 0 0] 48) = wa := ⟨_, rfl⟩
    obtain ⟨wb, hwb⟩ : ∃ wb, wa.alloc (.cells #[.slice (some ⟨w6.heap.size, 0, none⟩) 1 1] 36) = wb := ⟨_, rfl⟩
    have hba : Below w6.heap.size w6 wa := by rw [← hwa]; exact (Below.refl _ _).alloc (Nat.le_refl _) _
    have hbb : Below wa.heap.size wa wb := by rw [← hwb]; exact (Below.refl _ _).alloc (Nat.le_refl _) _
    have hka : wa.heap[w6.heap.size]? = some (.cells #[.string sOS, .int .i64 3, .bool false, .int .i64 0, .string sMa, .slice none 0 0, .slice none 0 0] 48 (0, 0)) := by rw [← hwa]; exact hp_new rfl
    have hkb : wb.heap[wa.heap.size]? = some (.cells #[.slice (some ⟨w6.heap.size, 0, none⟩) 1 1] 36 (0, 0)) := by rw [← hwb]; exact hp_new rfl
    have hPb := (HP6.out.next hba).next hbb
    have q2 := cell_of_blk hPb.m 2
    have fr := free_of_blk hPb.m 2
    have HQ7 : Hid (AwQ W4 b5 bS g1 g2 (.slice none 0 0) w6.heap.size wa.heap.size lb lo a0 a2 k0 k2 (wb.setCell ⟨b5, 2, none⟩ (.slice (some ⟨wa.heap.size, 0, none⟩) 1 1))) := by
      have hwr : Wrote b5 (.cells #[.slice (some ⟨bS, 0, none⟩) 2 2, .slice none 0 0, .slice (some ⟨wa.heap.size, 0, none⟩) 1 1] 25 (0, 0)) wb (wb.setCell ⟨b5, 2, none⟩ (.slice (some ⟨wa.heap.size, 0, none⟩) 1 1)) := wrote_setCell hPb.m 2 _
      have hbab := hba.trans (hbb.mono hba.size)
      have hk1 := (hbb.block _ (Array.getElem?_eq_some_iff.1 hka).1).trans hka
      have el := (hwr.block lb HNL.out).trans (hbab.block lb HLB.out)
      exact ⟨hPb.store hwr, (hwr.block _ (obj_ne (n := 7) (k := 3) hk1 hPb.m rfl rfl (by decide))).trans hk1, (hwr.block _ (obj_ne (n := 1) (k := 3) hkb hPb.m rfl rfl (by decide))).trans hkb,
        HR0.out.keep (Nat.le_trans hbab.size (Nat.le_of_eq hwr.size.symm)) fun b hb hl => (hwr.block b hb).trans (hbab.block b hl), HR2.out.keep (Nat.le_trans hbab.size (Nat.le_of_eq hwr.size.symm)) fun b hb hl => (hwr.block b hb).trans (hbab.block b hl),
        (cell_of_heap el).trans HY0.out, (cell_of_heap el).trans HY2.out, by rw [hwr.size]; exact Nat.lt_of_lt_of_le HLB.out hbab.size, HNL.out⟩
    have HWA := Lib.hid hwa
    have HWB := Lib.hid hwb
    clear hwa hwb hba hbb hka hkb hPb hiR hiV HP6 HR0 HR2 HY0 HY2 HLB HNL
    as_aux_lemma =>
    go_upto_region 7 with fail
    go_cut [75] (fun s75 wx => ∃ e1 e2, AwQ W4 b5 bS g1 g2 (.slice none 0 0) e1 e2 lb lo a0 a2 k0 k2 wx)
    · as_aux_lemma =>
      go_wp2_with (first
        | (refine wpList_build2 rfl 48 _ _ rfl (.string sOS) (.agg #[.int .i64 3, .bool false, .int .i64 0, .string sMa, .slice none 0 0, .slice none 0 0]) rfl rfl _ (Tryz.built_var _ _ _ _ _ _ _) ?_)
        | (refine wpList_buildOne rfl 36 48 _ rfl #[.string sOS, .int .i64 3, .bool false, .int .i64 0, .string sMa, .slice none 0 0, .slice none 0 0] iR _ Tryz.underlying36 HIR.out hzR 7 hnR (by decide) (by decide) rfl rfl wa HWA.out ?_)
        | (refine wpList_buildOne rfl 23 36 _ rfl #[.slice (some ⟨w6.heap.size, 0, none⟩) 1 1] iV _ Tryz.underlying23 HIV.out hzV 1 hnV (by decide) (by decide) rfl rfl wb HWB.out ?_))
      go_meet
      exact ⟨_, _, HQ7.out⟩
    obtain ⟨e1, e2, hq⟩ := hcut
    have HQ := Lib.hid hq
    clear n00 n01 n02 n03 n04 n05 n10 n11 n12 n13 n14 n15 n20 n21 n22 n23 n24 n25 n30 n31 n32 n33 n34 n35 HWA HWB q2 fr HQ7 hq
    --STOP1
    have hs7 := HS.out _ HQ.out.p.bl
    obtain ⟨n00, n01, n02, n03, n04, n05, n10, n11, n12, n13, n14, n15, n20, n21, n22, n23, n24, n25, n30, n31, n32, n33, n34, n35⟩ := hs7
    obtain ⟨wa2, hwa⟩ : ∃ wa2, wc.alloc (.cells #[.string sOS, .int .i64 3, .bool false, .int .i64 0, .string sMa, .slice none 0 0, .slice none 0 0, .string sXX, .int .i64 2, .bool false, .int .i64 1, .string ⟨#[]⟩, .slice none 0 0, .slice none 0 0] 48) = wa2 := ⟨_, rfl⟩
    obtain ⟨wb2, hwb⟩ : ∃ wb2, wa2.alloc (.cells #[.slice (some ⟨wc.heap.size, 0, none⟩) 2 2] 36) = wb2 := ⟨_, rfl⟩
    have hba : Below wc.heap.size wc wa2 := by rw [← hwa]; exact (Below.refl _ _).alloc (Nat.le_refl _) _
    have hbb : Below wa2.heap.size wa2 wb2 := by rw [← hwb]; exact (Below.refl _ _).alloc (Nat.le_refl _) _
    have hka : wa2.heap[wc.heap.size]? = some (.cells #[.string sOS, .int .i64 3, .bool false, .int .i64 0, .string sMa, .slice none 0 0, .slice none 0 0, .string sXX, .int .i64 2, .bool false, .int .i64 1, .string ⟨#[]⟩, .slice none 0 0, .slice none 0 0] 48 (0, 0)) := by rw [← hwa]; exact hp_new rfl
    have hkb : wb2.heap[wa2.heap.size]? = some (.cells #[.slice (some ⟨wc.heap.size, 0, none⟩) 2 2] 36 (0, 0)) := by rw [← hwb]; exact hp_new rfl
    have hPb := (HQ.out.next hba).next hbb
    have q2 := cell_of_blk hPb.p.m 1
    have fr := free_of_blk hPb.p.m 1
    have HQ8 : Hid (AwQ W4 b5 bS g1 g2 (.slice (some ⟨wa2.heap.size, 0, none⟩) 1 1) e1 e2 lb lo a0 a2 k0 k2 (wb2.setCell ⟨b5, 1, none⟩ (.slice (some ⟨wa2.heap.size, 0, none⟩) 1 1)) ∧ (wb2.setCell ⟨b5, 1, none⟩ (.slice (some ⟨wa2.heap.size, 0, none⟩) 1 1)).heap[wc.heap.size]? = some (.cells #[.string sOS, .int .i64 3, .bool false, .int .i64 0, .string sMa, .slice none 0 0, .slice none 0 0, .string sXX, .int .i64 2, .bool false, .int .i64 1, .string ⟨#[]⟩, .slice none 0 0, .slice none 0 0] 48 (0, 0)) ∧ (wb2.setCell ⟨b5, 1, none⟩ (.slice (some ⟨wa2.heap.size, 0, none⟩) 1 1)).heap[wa2.heap.size]? = some (.cells #[.slice (some ⟨wc.heap.size, 0, none⟩) 2 2] 36 (0, 0))) := by
      have hwr : Wrote b5 (.cells #[.slice (some ⟨bS, 0, none⟩) 2 2, .slice (some ⟨wa2.heap.size, 0, none⟩) 1 1, .slice (some ⟨e2, 0, none⟩) 1 1] 25 (0, 0)) wb2 (wb2.setCell ⟨b5, 1, none⟩ (.slice (some ⟨wa2.heap.size, 0, none⟩) 1 1)) := wrote_setCell hPb.p.m 1 _
      have hk1 := (hbb.block _ (Array.getElem?_eq_some_iff.1 hka).1).trans hka
      exact ⟨hPb.store hwr, (hwr.block _ (obj_ne (n := 14) (k := 3) hk1 hPb.p.m rfl rfl (by decide))).trans hk1, (hwr.block _ (obj_ne (n := 1) (k := 3) hkb hPb.p.m rfl rfl (by decide))).trans hkb⟩
    have HWA := Lib.hid hwa
    have HWB := Lib.hid hwb
    clear hwa hwb hba hbb hka hkb hPb HQ
    as_aux_lemma =>
    go_upto_region 8 with fail
    go_cut [82] (fun s82 wx => ∃ i1 i2, AwQ W4 b5 bS g1 g2 (.slice (some ⟨i2, 0, none⟩) 1 1) e1 e2 lb lo a0 a2 k0 k2 wx ∧ wx.heap[i1]? = some (.cells #[.string sOS, .int .i64 3, .bool false, .int .i64 0, .string sMa, .slice none 0 0, .slice none 0 0, .string sXX, .int .i64 2, .bool false, .int .i64 1, .string ⟨#[]⟩, .slice none 0 0, .slice none 0 0] 48 (0, 0)) ∧ wx.heap[i2]? = some (.cells #[.slice (some ⟨i1, 0, none⟩) 2 2] 36 (0, 0)))
    · as_aux_lemma =>
      go_wp2_with (first
        | (refine wpList_build2 rfl 48 _ _ rfl (.string sOS) (.agg #[.int .i64 3, .bool false, .int .i64 0, .string sMa, .slice none 0 0, .slice none 0 0]) rfl rfl _ (Tryz.built_var _ _ _ _ _ _ _) ?_)
        | (refine wpList_build2 rfl 48 _ _ rfl (.string sXX) (.agg #[.int .i64 2, .bool false, .int .i64 1, .string ⟨#[]⟩, .slice none 0 0, .slice none 0 0]) rfl rfl _ (Tryz.built_var _ _ _ _ _ _ _) ?_)
        | (refine wpList_buildTwo rfl 36 48 _ _ rfl #[.string sOS, .int .i64 3, .bool false, .int .i64 0, .string sMa, .slice none 0 0, .slice none 0 0] #[.string sXX, .int .i64 2, .bool false, .int .i64 1, .string ⟨#[]⟩, .slice none 0 0, .slice none 0 0] _ iR _ Tryz.underlying36 HIR.out hzR 7 hnR (by decide) (by decide) rfl rfl rfl rfl rfl wa2 HWA.out ?_)
        | (refine wpList_buildOne rfl 23 36 _ rfl #[.slice (some ⟨wc.heap.size, 0, none⟩) 2 2] iV _ Tryz.underlying23 HIV.out hzV 1 hnV (by decide) (by decide) rfl rfl wb2 HWB.out ?_))
      go_meet
      exact ⟨_, _, HQ8.out⟩
    obtain ⟨i1, i2, hq, hi1, hi2⟩ := hcut
    have HQ := Lib.hid hq
    have HI1 := Lib.hid hi1
    have HI2 := Lib.hid hi2
    clear n00 n01 n02 n03 n04 n05 n10 n11 n12 n13 n14 n15 n20 n21 n22 n23 n24 n25 n30 n31 n32 n33 n34 n35 HWA HWB q2 fr HQ8 hq hi1 hi2
    --STOP2
    obtain ⟨c0, c1, c2⟩ : wc.cell? ⟨b5, 0, none⟩ = some (.slice (some ⟨bS, 0, none⟩) 2 2) ∧ wc.cell? ⟨b5, 1, none⟩ = some (.slice (some ⟨i2, 0, none⟩) 1 1) ∧ wc.cell? ⟨b5, 2, none⟩ = some (.slice (some ⟨e2, 0, none⟩) 1 1) := ⟨cell_of_blk HQ.out.p.m 0, cell_of_blk HQ.out.p.m 1, cell_of_blk HQ.out.p.m 2⟩
    have HMB : Hid (MAt (fun b => b < wc.heap.size) wc (.agg #[.slice (some ⟨bS, 0, none⟩) 2 2, .slice (some ⟨i2, 0, none⟩) 1 1, .slice (some ⟨e2, 0, none⟩) 1 1]) mB) := HQ.out.p.mat (I := [inB]) (E := [exB]) rfl rfl (inB_row HI1.out HI2.out) (exB_row HQ.out.h1 HQ.out.h2)
    have XB : Hid (Calls Tryz.prog 10 #[.agg #[.slice (some ⟨bS, 0, none⟩) 2 2, .slice (some ⟨i2, 0, none⟩) 1 1, .slice (some ⟨e2, 0, none⟩) 1 1]] wc fun e w' => ∃ ko kc, e = .returned (.tuple #[.slice ko 3 kc, .int .i64 0]) ∧ Below wc.heap.size wc w') := (mexpand_any mB mB_wf _ wc HMB.out (by decide)).mono (by
      rintro e w' ⟨r, rfl, hr, hb⟩
      obtain ⟨ao, cap, rfl⟩ := hr.form
      rw [aw_lB, aw_eB]
      exact ⟨ao, cap, rfl, hb⟩)
    clear HI1 HI2
    as_aux_lemma =>
    go_upto_region 9 with fail
    go_wp2_with fail
    refine XB.out.mono ?_
    rintro e w9 ⟨ko, kc, rfl, hb⟩
    have HQ9 := Lib.hid (HQ.out.next hb)
    have HMB9 := Lib.hid (HMB.out.below hb)
    have HP9 : Hid (Pow w9) := HP.out.below (HB4.out.trans (HQ9.out.p.bl.mono HB4.out.size))
    clear XB c0 c1 c2 hb HMB HQ
    have hcv : Sem.run Tryz.prog (convert 39 9 (.slice (some ⟨w9.heap.size, 0, none⟩) 1 1)) (w9.alloc (.cells #[.int .u8 34] 5)) = .ok (.string ⟨#[34]⟩) (w9.alloc (.cells #[.int .u8 34] 5)) := conv_new w9 [34]
    obtain ⟨w1, hw1⟩ : ∃ w1, w9.alloc (.cells #[.int .u8 34] 5) = w1 := ⟨_, rfl⟩
    have hb91 : Below w9.heap.size w9 w1 := by rw [← hw1]; exact (Below.refl _ w9).alloc (Nat.le_refl _) _
    have HQ1 := Lib.hid (HQ9.out.next hb91)
    have HMB1 := Lib.hid (HMB9.out.below hb91)
    have HP1 := Lib.hid (HP9.out.below hb91)
    have HW1 := Lib.hid hw1
    clear hw1 hb91 HQ9 HMB9 HP9
    as_aux_lemma =>
    go_upto_region 11 with fail
    rw [HW1.out]
    clear HW1 hcv
    have HBw : Hid (∀ W' : World, Below w1.heap.size w1 W' → Below w.heap.size w W') := fun W' hb => HB4.out.trans ((HQ1.out.p.bl.trans (hb.mono HQ1.out.p.bl.size)).mono HB4.out.size)
    have HS11 : Hid (∀ W' : World, Below w1.heap.size w1 W' → W'.cell? ⟨lb, lo, none⟩ = some (.slice a0 2 k0) ∧ W'.cell? ⟨lb, lo + 2, none⟩ = some (.slice a2 2 k2) ∧ W'.cell? ⟨b5, 0, none⟩ = some (.slice (some ⟨bS, 0, none⟩) 2 2) ∧ W'.cell? ⟨b5, 1, none⟩ = some (.slice (some ⟨i2, 0, none⟩) 1 1) ∧ W'.cell? ⟨b5, 2, none⟩ = some (.slice (some ⟨e2, 0, none⟩) 1 1) ∧ W'.cell? ⟨e2, 0, none⟩ = some (.slice (some ⟨e1, 0, none⟩) 1 1)) := fun W' hb => by
      have q := HQ1.out.next hb
      exact ⟨q.y0, q.y2, cell_of_blk q.p.m 0, cell_of_blk q.p.m 1, cell_of_blk q.p.m 2, cell_of_blk q.h2 0⟩
    have wf1 : wfVars (iAB sLi 1) := iAB_wf (by decide) (by unfold isI; decide)
    have wf2 : wfVars (iAB sMa 1) := iAB_wf (by decide) (by unfold isI; decide)
    have wfe : wfVars exB := mB_wf.exc _ (List.mem_cons_self ..)
    have SFX : Hid (∀ W' : World, Below w1.heap.size w1 W' → Calls Tryz.prog 17 #[.slice a0 2 k0] W' fun e w' => e = .returned (.string ⟨#[103, 111, 61, 49, 44, 111, 115, 61, 34, 108, 105, 110, 117, 120, 34]⟩) ∧ Below W'.heap.size W' w') := fun W' hb => (msuffix_any (iAB sLi 1) _ _ aw_ok W' (HP1.out.below hb) (HQ1.out.next hb).r0).mono (by
      rintro e w' ⟨rfl, hb⟩
      exact ⟨by rw [aw_suf]; rfl, hb⟩)
    have EXR : Hid (∀ W' : World, Below w1.heap.size w1 W' → EVar.Row (fun b => b < W'.heap.size) W' exB (.slice (some ⟨e1, 0, none⟩) 1 1)) := fun W' hb => exB_row1 (HQ1.out.next hb).h1
    have MT2 : Hid (∀ W' : World, Below w1.heap.size w1 W' → Calls Tryz.prog 15 #[.slice a2 2 k2, .slice (some ⟨e1, 0, none⟩) 1 1] W' fun e w' => e = .returned (.bool true) ∧ Below W'.heap.size W' w') := fun W' hb => (matches_any (iAB sMa 1) exB _ _ _ _ wf2.1 wfe.1 (fun x hx => (wf2.2 x hx).2) (fun x hx => (wfe.2 x hx).2) W' (HQ1.out.next hb).r2 (EXR.out W' hb)).mono (by
      rintro e w' ⟨rfl, hb⟩
      exact ⟨by rw [aw_m2], hb⟩)
    have MT0 : Hid (∀ W' : World, Below w1.heap.size w1 W' → Calls Tryz.prog 15 #[.slice a0 2 k0, .slice (some ⟨e1, 0, none⟩) 1 1] W' fun e w' => e = .returned (.bool false) ∧ Below W'.heap.size W' w') := fun W' hb => (matches_any (iAB sLi 1) exB _ _ _ _ wf1.1 wfe.1 (fun x hx => (wf1.2 x hx).2) (fun x hx => (wfe.2 x hx).2) W' (HQ1.out.next hb).r0 (EXR.out W' hb)).mono (by
      rintro e w' ⟨rfl, hb⟩
      exact ⟨by rw [aw_m0], hb⟩)
    have VD : Hid (∀ W' : World, Below w1.heap.size w1 W' → Calls Tryz.prog 13 #[.agg #[.slice (some ⟨bS, 0, none⟩) 2 2, .slice (some ⟨i2, 0, none⟩) 1 1, .slice (some ⟨e2, 0, none⟩) 1 1]] W' fun e w' => e = .returned (.int .i64 0) ∧ Below W'.heap.size W' w') := fun W' hb => (mvalid_any mB _ _ mB_wf W' (HMB1.out.below hb)).mono (by
      rintro e w' ⟨rfl, hb⟩
      exact ⟨by rw [aw_vB]; rfl, hb⟩)
    have HDR : Hid (Below w1.heap.size w1 w1.drew) := (Below.refl _ _).drew
    clear HS HB4 HP HP1 HQ1 HMB1 wf1 wf2 wfe EXR
    as_aux_lemma =>
    --STOP3
    refine wp_region_Z (S := fun W' : World => W'.cell? ⟨lb, lo, none⟩ = some (.slice a0 2 k0) ∧ W'.cell? ⟨lb, lo + 2, none⟩ = some (.slice a2 2 k2) ∧ W'.cell? ⟨b5, 0, none⟩ = some (.slice (some ⟨bS, 0, none⟩) 2 2) ∧ W'.cell? ⟨b5, 1, none⟩ = some (.slice (some ⟨i2, 0, none⟩) 1 1) ∧ W'.cell? ⟨b5, 2, none⟩ = some (.slice (some ⟨e2, 0, none⟩) 1 1) ∧ W'.cell? ⟨e2, 0, none⟩ = some (.slice (some ⟨e1, 0, none⟩) 1 1)) 45 (by kernel_rfl) (HS11.out _ HDR.out) (fun hHeld => ?_)
    refine wpAnyZ_takeL (i := 0) (v := ?_) rfl (by kernel_rfl) (by kernel_rfl) (by kernel_rfl) (by kernel_rfl) (fun _ _ _ h => h) (Or.inl ⟨by rfl, ?_⟩) (by assumption) ?_
    rotate_left
    · (intro w hSw; (try dsimp only at hSw); go_simp; try with_reducible rfl)
    try simp only [Act.put, List.setIfInBounds_toArray, List.set_cons_zero, List.set_cons_succ]
    refine wpAnyZ_takeL (i := 1) (v := ?_) rfl (by kernel_rfl) (by kernel_rfl) (by kernel_rfl) (by kernel_rfl) (fun _ _ _ h => h) (Or.inl ⟨by rfl, ?_⟩) (by assumption) ?_
    rotate_left
    · (intro w hSw; (try dsimp only at hSw); go_simp; try with_reducible rfl)
    try simp only [Act.put, List.setIfInBounds_toArray, List.set_cons_zero, List.set_cons_succ]
    refine wpAnyZ_takeL (i := 2) (v := ?_) rfl (by kernel_rfl) (by kernel_rfl) (by kernel_rfl) (by kernel_rfl) (fun _ _ _ h => h) (Or.inl ⟨by rfl, ?_⟩) (by assumption) ?_
    rotate_left
    · (intro w hSw; (try dsimp only at hSw); go_simp; try with_reducible rfl)
    try simp only [Act.put, List.setIfInBounds_toArray, List.set_cons_zero, List.set_cons_succ]
    refine wpAnyZ_takeL (i := 3) (v := ?_) rfl (by kernel_rfl) (by kernel_rfl) (by kernel_rfl) (by kernel_rfl) (fun _ _ _ h => h) (Or.inl ⟨by rfl, ?_⟩) (by assumption) ?_
    rotate_left
    · (intro w hSw; (try dsimp only at hSw); go_simp; try with_reducible rfl)
    try simp only [Act.put, List.setIfInBounds_toArray, List.set_cons_zero, List.set_cons_succ]
    refine wpAnyZ_takeL (i := 4) (v := ?_) rfl (by kernel_rfl) (by kernel_rfl) (by kernel_rfl) (by kernel_rfl) (fun _ _ _ h => h) (Or.inl ⟨by rfl, ?_⟩) (by assumption) ?_
    rotate_left
    · (intro w hSw; (try dsimp only at hSw); go_simp; try with_reducible rfl)
    try simp only [Act.put, List.setIfInBounds_toArray, List.set_cons_zero, List.set_cons_succ]
    refine wpAnyZ_takeL (i := 5) (v := ?_) rfl (by kernel_rfl) (by kernel_rfl) (by kernel_rfl) (by kernel_rfl) (fun _ _ _ h => h) (Or.inl ⟨by rfl, ?_⟩) (by assumption) ?_
    rotate_left
    · (intro w hSw; (try dsimp only at hSw); go_simp; try with_reducible rfl)
    try simp only [Act.put, List.setIfInBounds_toArray, List.set_cons_zero, List.set_cons_succ]
    refine wpAnyZ_takeL (i := 6) (v := ?_) rfl (by kernel_rfl) (by kernel_rfl) (by kernel_rfl) (by kernel_rfl) (fun _ _ _ h => h) (Or.inl ⟨by rfl, ?_⟩) (by assumption) ?_
    rotate_left
    · (intro w hSw; (try dsimp only at hSw); go_simp; try with_reducible rfl)
    try simp only [Act.put, List.setIfInBounds_toArray, List.set_cons_zero, List.set_cons_succ]
    refine wpAnyZ_takeL (i := 7) (v := ?_) rfl (by kernel_rfl) (by kernel_rfl) (by kernel_rfl) (by kernel_rfl) (fun _ _ _ h => h) (Or.inl ⟨by rfl, ?_⟩) (by assumption) ?_
    rotate_left
    · (intro w hSw; (try dsimp only at hSw); go_simp; try with_reducible rfl)
    try simp only [Act.put, List.setIfInBounds_toArray, List.set_cons_zero, List.set_cons_succ]
    refine wpAnyZ_takeL (i := 8) (v := ?_) rfl (by kernel_rfl) (by kernel_rfl) (by kernel_rfl) (by kernel_rfl) (fun _ _ _ h => h) (Or.inl ⟨by rfl, ?_⟩) (by assumption) ?_
    rotate_left
    · (intro w hSw; (try dsimp only at hSw); go_simp; try with_reducible rfl)
    try simp only [Act.put, List.setIfInBounds_toArray, List.set_cons_zero, List.set_cons_succ]
    refine wpAnyZ_takeL (i := 9) (v := ?_) rfl (by kernel_rfl) (by kernel_rfl) (by kernel_rfl) (by kernel_rfl) (fun _ _ _ h => h) (Or.inl ⟨by rfl, ?_⟩) (by assumption) ?_
    rotate_left
    · (intro w hSw; (try dsimp only at hSw); go_simp; try with_reducible rfl)
    try simp only [Act.put, List.setIfInBounds_toArray, List.set_cons_zero, List.set_cons_succ]
    refine wpAnyZ_takeL (i := 10) (v := ?_) rfl (by kernel_rfl) (by kernel_rfl) (by kernel_rfl) (by kernel_rfl) (fun _ _ _ h => h) (Or.inl ⟨by rfl, ?_⟩) (by assumption) ?_
    rotate_left
    · (intro w hSw; (try dsimp only at hSw); go_simp; try with_reducible rfl)
    try simp only [Act.put, List.setIfInBounds_toArray, List.set_cons_zero, List.set_cons_succ]
    refine wpAnyZ_takeL (i := 12) (v := ?_) rfl (by kernel_rfl) (by kernel_rfl) (by kernel_rfl) (by kernel_rfl) (fun _ _ _ h => h) (Or.inl ⟨by rfl, ?_⟩) (by assumption) ?_
    rotate_left
    · (intro w hSw; (try dsimp only at hSw); go_simp; try with_reducible rfl)
    try simp only [Act.put, List.setIfInBounds_toArray, List.set_cons_zero, List.set_cons_succ]
    refine wpAnyZ_takeL (i := 13) (v := ?_) rfl (by kernel_rfl) (by kernel_rfl) (by kernel_rfl) (by kernel_rfl) (fun _ _ _ h => h) (Or.inl ⟨by rfl, ?_⟩) (by assumption) ?_
    rotate_left
    · (intro w hSw; (try dsimp only at hSw); go_simp; try with_reducible rfl)
    try simp only [Act.put, List.setIfInBounds_toArray, List.set_cons_zero, List.set_cons_succ]
    refine wpAnyZ_takeL (i := 14) (v := ?_) rfl (by kernel_rfl) (by kernel_rfl) (by kernel_rfl) (by kernel_rfl) (fun _ _ _ h => h) (Or.inl ⟨by rfl, ?_⟩) (by assumption) ?_
    rotate_left
    · (intro w hSw; (try dsimp only at hSw); go_simp; try with_reducible rfl)
    try simp only [Act.put, List.setIfInBounds_toArray, List.set_cons_zero, List.set_cons_succ]
    refine wpAnyZ_takeL (i := 15) (v := ?_) rfl (by kernel_rfl) (by kernel_rfl) (by kernel_rfl) (by kernel_rfl) (fun _ _ _ h => h) (Or.inl ⟨by rfl, ?_⟩) (by assumption) ?_
    rotate_left
    · (intro w hSw; (try dsimp only at hSw); go_simp; try with_reducible rfl)
    try simp only [Act.put, List.setIfInBounds_toArray, List.set_cons_zero, List.set_cons_succ]
    refine wpAnyZ_takeL (i := 16) (v := ?_) rfl (by kernel_rfl) (by kernel_rfl) (by kernel_rfl) (by kernel_rfl) (fun _ _ _ h => h) (Or.inl ⟨by rfl, ?_⟩) (by assumption) ?_
    rotate_left
    · (intro w hSw; (try dsimp only at hSw); go_simp; try with_reducible rfl)
    try simp only [Act.put, List.setIfInBounds_toArray, List.set_cons_zero, List.set_cons_succ]
    obtain ⟨wd, hwd⟩ : ∃ wd, w1.drew = wd := ⟨_, rfl⟩
    rw [hwd] at HDR hHeld ⊢
    have HB1 := HDR
    clear hwd HDR
    refine wpAnyZ_oneL (i := 11) (by kernel_rfl) rfl (fun K hK => ?_)
    go_simp
    go_at_call 17
    refine (SFX.out _ HB1.out).mono ?_
    rintro e v2 ⟨rfl, hb⟩
    have HB2 := Lib.hid (HB1.out.trans (hb.mono HB1.out.size))
    clear hb SFX
    refine hK.out _ _ (fun _ => HS11.out _ HB2.out) (fun hHeld => ?_)
    replace hHeld := hHeld (by decide)
    clear hK K
    try simp only [Act.put, List.setIfInBounds_toArray, List.set_cons_zero, List.set_cons_succ]
    refine wpAnyZ_takeL (i := 17) (v := .bool true) rfl (by kernel_rfl) (by kernel_rfl) (by kernel_rfl) (by kernel_rfl) (fun _ _ _ h => h) (Or.inl ⟨by rfl, ?_⟩) (by assumption) ?_
    · (intro w hSw; (try dsimp only at hSw); go_simp; first | with_reducible rfl | decide | (decide +kernel))
    try simp only [Act.put, List.setIfInBounds_toArray, List.set_cons_zero, List.set_cons_succ]
    refine wpAnyZ_takeL (i := 18) (v := ?_) rfl (by kernel_rfl) (by kernel_rfl) (by kernel_rfl) (by kernel_rfl) (fun _ _ _ h => h) (Or.inl ⟨by rfl, ?_⟩) (by assumption) ?_
    rotate_left
    · (intro w hSw; (try dsimp only at hSw); go_simp; try with_reducible rfl)
    try simp only [Act.put, List.setIfInBounds_toArray, List.set_cons_zero, List.set_cons_succ]
    refine wpAnyZ_takeL (i := 19) (v := ?_) rfl (by kernel_rfl) (by kernel_rfl) (by kernel_rfl) (by kernel_rfl) (fun _ _ _ h => h) (Or.inl ⟨by rfl, ?_⟩) (by assumption) ?_
    rotate_left
    · (intro w hSw; (try dsimp only at hSw); go_simp; try with_reducible rfl)
    try simp only [Act.put, List.setIfInBounds_toArray, List.set_cons_zero, List.set_cons_succ]
    refine wpAnyZ_takeL (i := 20) (v := ?_) rfl (by kernel_rfl) (by kernel_rfl) (by kernel_rfl) (by kernel_rfl) (fun _ _ _ h => h) (Or.inl ⟨by rfl, ?_⟩) (by assumption) ?_
    rotate_left
    · (intro w hSw; (try dsimp only at hSw); go_simp; try with_reducible rfl)
    try simp only [Act.put, List.setIfInBounds_toArray, List.set_cons_zero, List.set_cons_succ]
    refine wpAnyZ_takeL (i := 21) (v := ?_) rfl (by kernel_rfl) (by kernel_rfl) (by kernel_rfl) (by kernel_rfl) (fun _ _ _ h => h) (Or.inl ⟨by rfl, ?_⟩) (by assumption) ?_
    rotate_left
    · (intro w hSw; (try dsimp only at hSw); go_simp; try with_reducible rfl)
    try simp only [Act.put, List.setIfInBounds_toArray, List.set_cons_zero, List.set_cons_succ]
    refine wpAnyZ_takeL (i := 22) (v := ?_) rfl (by kernel_rfl) (by kernel_rfl) (by kernel_rfl) (by kernel_rfl) (fun _ _ _ h => h) (Or.inl ⟨by rfl, ?_⟩) (by assumption) ?_
    rotate_left
    · (intro w hSw; (try dsimp only at hSw); go_simp; try with_reducible rfl)
    try simp only [Act.put, List.setIfInBounds_toArray, List.set_cons_zero, List.set_cons_succ]
    refine wpAnyZ_takeL (i := 23) (v := ?_) rfl (by kernel_rfl) (by kernel_rfl) (by kernel_rfl) (by kernel_rfl) (fun _ _ _ h => h) (Or.inl ⟨by rfl, ?_⟩) (by assumption) ?_
    rotate_left
    · (intro w hSw; (try dsimp only at hSw); go_simp; try with_reducible rfl)
    try simp only [Act.put, List.setIfInBounds_toArray, List.set_cons_zero, List.set_cons_succ]
    refine wpAnyZ_takeL (i := 24) (v := ?_) rfl (by kernel_rfl) (by kernel_rfl) (by kernel_rfl) (by kernel_rfl) (fun _ _ _ h => h) (Or.inl ⟨by rfl, ?_⟩) (by assumption) ?_
    rotate_left
    · (intro w hSw; (try dsimp only at hSw); go_simp; try with_reducible rfl)
    try simp only [Act.put, List.setIfInBounds_toArray, List.set_cons_zero, List.set_cons_succ]
    refine wpAnyZ_takeL (i := 25) (v := ?_) rfl (by kernel_rfl) (by kernel_rfl) (by kernel_rfl) (by kernel_rfl) (fun _ _ _ h => h) (Or.inl ⟨by rfl, ?_⟩) (by assumption) ?_
    rotate_left
    · (intro w hSw; (try dsimp only at hSw); go_simp; try with_reducible rfl)
    try simp only [Act.put, List.setIfInBounds_toArray, List.set_cons_zero, List.set_cons_succ]
    refine wpAnyZ_takeL (i := 26) (v := ?_) rfl (by kernel_rfl) (by kernel_rfl) (by kernel_rfl) (by kernel_rfl) (fun _ _ _ h => h) (Or.inl ⟨by rfl, ?_⟩) (by assumption) ?_
    rotate_left
    · (intro w hSw; (try dsimp only at hSw); go_simp; try with_reducible rfl)
    try simp only [Act.put, List.setIfInBounds_toArray, List.set_cons_zero, List.set_cons_succ]
    refine wpAnyZ_oneL (i := 27) (by kernel_rfl) rfl (fun K hK => ?_)
    go_simp
    go_at_call 15
    refine (MT2.out _ HB2.out).mono ?_
    rintro e v3 ⟨rfl, hb⟩
    have HB3 := Lib.hid (HB2.out.trans (hb.mono HB2.out.size))
    clear hb MT2
    refine hK.out _ _ (fun _ => HS11.out _ HB3.out) (fun hHeld => ?_)
    replace hHeld := hHeld (by decide)
    clear hK K
    try simp only [Act.put, List.setIfInBounds_toArray, List.set_cons_zero, List.set_cons_succ]
    refine wpAnyZ_takeL (i := 28) (v := ?_) rfl (by kernel_rfl) (by kernel_rfl) (by kernel_rfl) (by kernel_rfl) (fun _ _ _ h => h) (Or.inl ⟨by rfl, ?_⟩) (by assumption) ?_
    rotate_left
    · (intro w hSw; (try dsimp only at hSw); go_simp; try with_reducible rfl)
    try simp only [Act.put, List.setIfInBounds_toArray, List.set_cons_zero, List.set_cons_succ]
    refine wpAnyZ_takeL (i := 29) (v := ?_) rfl (by kernel_rfl) (by kernel_rfl) (by kernel_rfl) (by kernel_rfl) (fun _ _ _ h => h) (Or.inl ⟨by rfl, ?_⟩) (by assumption) ?_
    rotate_left
    · (intro w hSw; (try dsimp only at hSw); go_simp; try with_reducible rfl)
    try simp only [Act.put, List.setIfInBounds_toArray, List.set_cons_zero, List.set_cons_succ]
    refine wpAnyZ_takeL (i := 30) (v := ?_) rfl (by kernel_rfl) (by kernel_rfl) (by kernel_rfl) (by kernel_rfl) (fun _ _ _ h => h) (Or.inl ⟨by rfl, ?_⟩) (by assumption) ?_
    rotate_left
    · (intro w hSw; (try dsimp only at hSw); go_simp; try with_reducible rfl)
    try simp only [Act.put, List.setIfInBounds_toArray, List.set_cons_zero, List.set_cons_succ]
    refine wpAnyZ_takeL (i := 31) (v := ?_) rfl (by kernel_rfl) (by kernel_rfl) (by kernel_rfl) (by kernel_rfl) (fun _ _ _ h => h) (Or.inl ⟨by rfl, ?_⟩) (by assumption) ?_
    rotate_left
    · (intro w hSw; (try dsimp only at hSw); go_simp; try with_reducible rfl)
    try simp only [Act.put, List.setIfInBounds_toArray, List.set_cons_zero, List.set_cons_succ]
    refine wpAnyZ_takeL (i := 32) (v := ?_) rfl (by kernel_rfl) (by kernel_rfl) (by kernel_rfl) (by kernel_rfl) (fun _ _ _ h => h) (Or.inl ⟨by rfl, ?_⟩) (by assumption) ?_
    rotate_left
    · (intro w hSw; (try dsimp only at hSw); go_simp; try with_reducible rfl)
    try simp only [Act.put, List.setIfInBounds_toArray, List.set_cons_zero, List.set_cons_succ]
    refine wpAnyZ_takeL (i := 33) (v := ?_) rfl (by kernel_rfl) (by kernel_rfl) (by kernel_rfl) (by kernel_rfl) (fun _ _ _ h => h) (Or.inl ⟨by rfl, ?_⟩) (by assumption) ?_
    rotate_left
    · (intro w hSw; (try dsimp only at hSw); go_simp; try with_reducible rfl)
    try simp only [Act.put, List.setIfInBounds_toArray, List.set_cons_zero, List.set_cons_succ]
    refine wpAnyZ_takeL (i := 34) (v := ?_) rfl (by kernel_rfl) (by kernel_rfl) (by kernel_rfl) (by kernel_rfl) (fun _ _ _ h => h) (Or.inl ⟨by rfl, ?_⟩) (by assumption) ?_
    rotate_left
    · (intro w hSw; (try dsimp only at hSw); go_simp; try with_reducible rfl)
    try simp only [Act.put, List.setIfInBounds_toArray, List.set_cons_zero, List.set_cons_succ]
    refine wpAnyZ_takeL (i := 35) (v := ?_) rfl (by kernel_rfl) (by kernel_rfl) (by kernel_rfl) (by kernel_rfl) (fun _ _ _ h => h) (Or.inl ⟨by rfl, ?_⟩) (by assumption) ?_
    rotate_left
    · (intro w hSw; (try dsimp only at hSw); go_simp; try with_reducible rfl)
    try simp only [Act.put, List.setIfInBounds_toArray, List.set_cons_zero, List.set_cons_succ]
    refine wpAnyZ_takeL (i := 36) (v := ?_) rfl (by kernel_rfl) (by kernel_rfl) (by kernel_rfl) (by kernel_rfl) (fun _ _ _ h => h) (Or.inl ⟨by rfl, ?_⟩) (by assumption) ?_
    rotate_left
    · (intro w hSw; (try dsimp only at hSw); go_simp; try with_reducible rfl)
    try simp only [Act.put, List.setIfInBounds_toArray, List.set_cons_zero, List.set_cons_succ]
    refine wpAnyZ_oneL (i := 37) (by kernel_rfl) rfl (fun K hK => ?_)
    go_simp
    go_at_call 15
    refine (MT0.out _ HB3.out).mono ?_
    rintro e v4 ⟨rfl, hb⟩
    have HB4 := Lib.hid (HB3.out.trans (hb.mono HB3.out.size))
    clear hb MT0
    refine hK.out _ _ (fun _ => HS11.out _ HB4.out) (fun hHeld => ?_)
    replace hHeld := hHeld (by decide)
    clear hK K
    try simp only [Act.put, List.setIfInBounds_toArray, List.set_cons_zero, List.set_cons_succ]
    refine wpAnyZ_takeL (i := 38) (v := ?_) rfl (by kernel_rfl) (by kernel_rfl) (by kernel_rfl) (by kernel_rfl) (fun _ _ _ h => h) (Or.inl ⟨by rfl, ?_⟩) (by assumption) ?_
    rotate_left
    · (intro w hSw; (try dsimp only at hSw); go_simp; try with_reducible rfl)
    try simp only [Act.put, List.setIfInBounds_toArray, List.set_cons_zero, List.set_cons_succ]
    refine wpAnyZ_takeL (i := 39) (v := ?_) rfl (by kernel_rfl) (by kernel_rfl) (by kernel_rfl) (by kernel_rfl) (fun _ _ _ h => h) (Or.inl ⟨by rfl, ?_⟩) (by assumption) ?_
    rotate_left
    · (intro w hSw; (try dsimp only at hSw); go_simp; try with_reducible rfl)
    try simp only [Act.put, List.setIfInBounds_toArray, List.set_cons_zero, List.set_cons_succ]
    refine wpAnyZ_takeL (i := 40) (v := ?_) rfl (by kernel_rfl) (by kernel_rfl) (by kernel_rfl) (by kernel_rfl) (fun _ _ _ h => h) (Or.inl ⟨by rfl, ?_⟩) (by assumption) ?_
    rotate_left
    · (intro w hSw; (try dsimp only at hSw); go_simp; try with_reducible rfl)
    try simp only [Act.put, List.setIfInBounds_toArray, List.set_cons_zero, List.set_cons_succ]
    refine wpAnyZ_takeL (i := 41) (v := ?_) rfl (by kernel_rfl) (by kernel_rfl) (by kernel_rfl) (by kernel_rfl) (fun _ _ _ h => h) (Or.inl ⟨by rfl, ?_⟩) (by assumption) ?_
    rotate_left
    · (intro w hSw; (try dsimp only at hSw); go_simp; try with_reducible rfl)
    try simp only [Act.put, List.setIfInBounds_toArray, List.set_cons_zero, List.set_cons_succ]
    refine wpAnyZ_oneL (i := 42) (by kernel_rfl) rfl (fun K hK => ?_)
    go_simp
    go_at_call 13
    refine (VD.out _ HB4.out).mono ?_
    rintro e v5 ⟨rfl, hb⟩
    have HB5 := Lib.hid (HB4.out.trans (hb.mono HB4.out.size))
    clear hb VD
    refine hK.out _ _ (fun _ => HS11.out _ HB5.out) (fun hHeld => ?_)
    replace hHeld := hHeld (by decide)
    clear hK K
    try simp only [Act.put, List.setIfInBounds_toArray, List.set_cons_zero, List.set_cons_succ]
    refine wpAnyZ_takeL (i := 43) (v := ?_) rfl (by kernel_rfl) (by kernel_rfl) (by kernel_rfl) (by kernel_rfl) (fun _ _ _ h => h) (Or.inl ⟨by rfl, ?_⟩) (by assumption) ?_
    rotate_left
    · (intro w hSw; (try dsimp only at hSw); go_simp; try with_reducible rfl)
    try simp only [Act.put, List.setIfInBounds_toArray, List.set_cons_zero, List.set_cons_succ]
    refine wpAnyZ_takeL (i := 44) (v := ?_) rfl (by kernel_rfl) (by kernel_rfl) (by kernel_rfl) (by kernel_rfl) (fun _ _ _ h => h) (Or.inl ⟨by rfl, ?_⟩) (by assumption) ?_
    rotate_left
    · (intro w hSw; (try dsimp only at hSw); go_simp; try with_reducible rfl)
    try simp only [Act.put, List.setIfInBounds_toArray, List.set_cons_zero, List.set_cons_succ]
    refine wpAnyZ_oneL (i := 45) (by kernel_rfl) rfl (fun K hK => ?_)
    go_simp
    refine hK.out _ _ (fun h => absurd h (by decide)) (fun _ => ?_)
    clear hK K
    try simp only [Act.put, List.setIfInBounds_toArray, List.set_cons_zero, List.set_cons_succ]
    refine wpAnyZ_done (by kernel_rfl) ?_ _
    clear hHeld
    go_wp2_with fail
    go_ret
    exact ⟨rfl, HBw.out _ HB5.out⟩
end Go.Proofs.YtomecnncighkgaaGreatDoor
