/- The walks over the law's helpers: within, excluded, combination. -/
import Derived.Test.YtomecnncighkgaaGreatDoorMl4
import Derived.Test.YtomecnncighkgaaGreatDoorMw3m
import Derived.Test.YtomecnncighkgaaGreatDoorVa4
import Derived.Test.YtomecnncighkgaaGreatDoorVr3m
import Derived.Test.YtomecnncighkgaaGreatDoorMo3
namespace Go.Proofs.YtomecnncighkgaaGreatDoor
open Go.RowKit Go.Deep

theorem with_step {V : List VR} {L : List (List VR)} {i : Nat} (hi : i < L.length) : withF V (L.take (i + 1)) = withF V (L.take i) + (if agrF V L[i] = true then 1 else 0) := by
  unfold withF
  rw [List.take_succ_eq_append_getElem hi, List.countP_append]
  simp [List.countP_cons]
theorem with_len (V : List VR) (L : List (List VR)) : withF V L ≤ L.length := List.countP_le_length
def WiRel (V : List VR) (L : List (List VR)) (w : World) (f : Nat) (t5 t6 : Value) (wr : World) : Prop :=
  ∃ i : Nat, t6 = .int .i64 (i : Nat) ∧ i ≤ L.length ∧ f = L.length - i ∧ t5 = .int .i64 (withF V (L.take i) : Nat) ∧ Below w.heap.size w wr
set_option maxRecDepth 100000 in
set_option maxHeartbeats 3200000 in
theorem within_any (V : List VR) (L : List (List VR)) (v u : Value) (B C : Nat → Prop) (wV : wfVars V) (wL : ∀ x ∈ L, wfVars x) (hl : L.length ≤ 9223372036854775807) (w : World) (hV : EVar.Row B w V v) (hL : EVars.Row C w L u) :
    Calls Tryz.prog 19 #[v, u] w fun e w' => e = .returned (.int .i64 (withF V L : Nat)) ∧ Below w.heap.size w w' := by
  obtain ⟨vo, vc, rfl⟩ := hV.form
  obtain ⟨uo, uc, rfl⟩ := hL.form
  have HV := Lib.hid hV
  have HL := Lib.hid hL
  have HWV := Lib.hid wV
  have HWL := Lib.hid wL
  clear hV hL wV wL
  generalize V.length = nv at *
  go_enter Tryz.func19, Tryz.ntmps19
  go_wp2_with fail
  go_loopg [5, 6] L.length (WiRel V L w)
  case atStart => exact ⟨0, rfl, Nat.zero_le _, rfl, rfl, Below.refl _ _⟩
  case round =>
    obtain ⟨wz, hwz⟩ : ∃ wz : World, wz = wr := ⟨_, rfl⟩
    subst hwz
    obtain ⟨i, rfl, hi, rfl, rfl, hbel⟩ := hrel
    have HB := Lib.hid hbel
    clear hbel
    by_cases hlt : i < L.length
    · have hii : (i : Int) < (L.length : Int) := by omega
      obtain ⟨bl, off, a, c, huo, hbl, y0, hr⟩ := evars_at (HL.out.below HB.out) hlt
      subst huo
      have AG : Hid (Calls Tryz.prog 50 #[.slice vo nv vc, .slice a L[i].length c] wz fun e w' => e = .returned (.bool (agrF V L[i])) ∧ Below wz.heap.size wz w') := agree_any V L[i] _ _ B C HWV.out.1 (HWL.out _ (List.getElem_mem hlt)).1 (fun x hx => (HWV.out.2 x hx).2) (fun x hx => ((HWL.out _ (List.getElem_mem hlt)).2 x hx).2) wz (HV.out.below HB.out) hr
      have HN := Lib.hid (with_step (V := V) hlt)
      have hc1 : withF V (L.take i) ≤ i := by have := with_len V (L.take i); rw [List.length_take] at this; omega
      clear hr
      generalize L[i].length = ni at *
      generalize agrF V L[i] = b at *
      generalize withF V (L.take i) = cn at *
      have q1 : IntKind.i64.wrap ((cn : Int) + 1) = (cn : Int) + 1 := IntWalk.i64_in _ (by omega)
      as_aux_lemma =>
      go_wp2_with fail
      refine AG.out.mono ?_
      rintro e w2 ⟨rfl, hb⟩
      have HB2 := Lib.hid (HB.out.trans (hb.mono HB.out.size))
      clear hb AG y0
      cases b
      · as_aux_lemma =>
        go_wp2_with fail
        go_roundg (L.length - (i + 1))
        case measure => omega
        case rel => exact ⟨i + 1, by go_num, by omega, rfl, iv (by rw [HN.out]; simp), HB2.out⟩
      · as_aux_lemma =>
        go_wp2_with fail
        go_roundg (L.length - (i + 1))
        case measure => omega
        case rel => exact ⟨i + 1, by go_num, by omega, rfl, iv (by rw [HN.out]; simp), HB2.out⟩
    · have hii : ¬ (i : Int) < (L.length : Int) := by omega
      have he : i = L.length := by omega
      rw [he, List.take_length]
      clear he hlt hi
      as_aux_lemma =>
      go_wp2_with fail
      go_ret
      exact ⟨rfl, HB.out⟩

def ExRel (V : List VR) (E : List (List VR)) (w1 : World) (f : Nat) (t5 : Value) (wr : World) : Prop :=
  ∃ i : Nat, t5 = .int .i64 (i : Nat) ∧ i ≤ E.length ∧ f = E.length - i ∧ (E.take i).any (matF V) = false ∧ Below w1.heap.size w1 wr
set_option maxRecDepth 100000 in
set_option maxHeartbeats 3200000 in
theorem excluded_any (V : List VR) (m : MX) (v u : Value) (B C : Nat → Prop) (wV : wfVars V) (hm : m.wf) (w : World) (hV : EVar.Row B w V v) (hM : MAt C w u m) :
    Calls Tryz.prog 20 #[v, u] w fun e w' => e = .returned (.bool (exclF m V)) ∧ Below w.heap.size w w' := by
  obtain ⟨ao, ac, io, ic, eo, ec, rfl, hA, hI, hE⟩ := hM
  obtain ⟨vo, vc, rfl⟩ := hV.form
  obtain ⟨w1, hw1⟩ : ∃ w1, w.alloc (.cells #[.slice ao m.axes.length ac, .slice io m.incl.length ic, .slice eo m.excl.length ec] 25 (0, 0)) = w1 := ⟨_, rfl⟩
  have hk1 : w1.heap[w.heap.size]? = some (.cells #[.slice ao m.axes.length ac, .slice io m.incl.length ic, .slice eo m.excl.length ec] 25 (0, 0)) := by rw [← hw1]; exact hp_new rfl
  have HB1 : Hid (Below w.heap.size w w1) := by unfold Hid; rw [← hw1]; exact (Below.refl _ w).alloc (Nat.le_refl _) _
  have HF : Hid (∀ W' : World, Below w1.heap.size w1 W' → W'.cell? ⟨w.heap.size, 2, none⟩ = some (.slice eo m.excl.length ec)) := fun W' hb => cell_of_blk ((hb.block _ (Array.getElem?_eq_some_iff.1 hk1).1).trans hk1) 2
  have HX : Hid (∀ W' : World, Below w1.heap.size w1 W' → Below w.heap.size w W') := fun W' hb => HB1.out.trans (hb.mono HB1.out.size)
  have HV := Lib.hid hV
  have HE := Lib.hid hE
  have HWV := Lib.hid wV
  have HWE := Lib.hid hm.exc
  have hle := hm.le
  have HEX : Hid (exclF m V = m.excl.any (matF V)) := rfl
  have HW1 := Lib.hid hw1
  generalize exclF m V = r at *
  generalize m.excl = E at *
  generalize m.axes.length = la at *
  generalize m.incl.length = li at *
  generalize V.length = nv at *
  clear hV hE wV hm hA hI hk1 hw1
  go_enter Tryz.func20, Tryz.ntmps20
  go_upto_region 1 with fail
  rw [HW1.out]
  clear HW1
  go_wp2_with fail
  go_loopg [5] E.length (ExRel V E w1)
  case atStart => exact ⟨0, rfl, Nat.zero_le _, rfl, rfl, Below.refl _ _⟩
  case round =>
    obtain ⟨wz, hwz⟩ : ∃ wz : World, wz = wr := ⟨_, rfl⟩
    subst hwz
    obtain ⟨i, rfl, hi, rfl, hany, hbel⟩ := hrel
    have HB := Lib.hid hbel
    have HA := Lib.hid hany
    have c2 := HF.out wz hbel
    clear hbel hany
    by_cases hlt : i < E.length
    · have hii : (i : Int) < (E.length : Int) := by omega
      obtain ⟨bl, off, a, c, huo, hbl, y0, hr⟩ := evars_at (HE.out.below (HX.out wz HB.out)) hlt
      subst huo
      have MT : Hid (Calls Tryz.prog 15 #[.slice vo nv vc, .slice a E[i].length c] wz fun e w' => e = .returned (.bool (matF V E[i])) ∧ Below wz.heap.size wz w') := matches_any V E[i] _ _ B C HWV.out.1 (HWE.out _ (List.getElem_mem hlt)).1 (fun x hx => (HWV.out.2 x hx).2) (fun x hx => ((HWE.out _ (List.getElem_mem hlt)).2 x hx).2) wz (HV.out.below (HX.out wz HB.out)) hr
      have HN : Hid ((E.take (i + 1)).any (matF V) = matF V E[i]) := by unfold Hid; rw [List.take_succ_eq_append_getElem hlt, List.any_append, HA.out]; simp
      have HT : Hid (matF V E[i] = true → r = true) := fun h => by rw [HEX.out, List.any_eq_true]; exact ⟨_, List.getElem_mem hlt, h⟩
      clear hr
      generalize E[i].length = ni at *
      generalize matF V E[i] = b at *
      as_aux_lemma =>
      go_wp2_with fail
      refine MT.out.mono ?_
      rintro e w2 ⟨rfl, hb⟩
      have HB2 := Lib.hid (HB.out.trans (hb.mono HB.out.size))
      clear hb MT y0 c2
      cases b
      · as_aux_lemma =>
        go_wp2_with fail
        go_roundg (E.length - (i + 1))
        case measure => omega
        case rel => exact ⟨i + 1, by go_num, by omega, rfl, HN.out, HB2.out⟩
      · have hr := HT.out rfl
        subst hr
        as_aux_lemma =>
        go_wp2_with fail
        go_ret
        exact ⟨rfl, HX.out _ HB2.out⟩
    · have hii : ¬ (i : Int) < (E.length : Int) := by omega
      have he : i = E.length := by omega
      have hr : r = false := by rw [HEX.out, ← HA.out, he, List.take_length]
      subst hr
      clear he hlt hi
      as_aux_lemma =>
      go_wp2_with fail
      go_ret
      exact ⟨rfl, HX.out _ HB.out⟩

def CmRel (V : List VR) (A : List AX) (w1 : World) (f : Nat) (t5 : Value) (wr : World) : Prop :=
  ∃ i : Nat, t5 = .int .i64 (i : Nat) ∧ i ≤ A.length ∧ f = A.length - i ∧ (A.take i).all (fun a => a.2.any fun x => matF V [(a.1, x)]) = true ∧ Below w1.heap.size w1 wr
def CjnRel (V : List VR) (a : AX) (w1 : World) (f : Nat) (t6 t7 : Value) (wr : World) : Prop :=
  ∃ k : Nat, t7 = .int .i64 (k : Nat) ∧ k ≤ a.2.length ∧ f = a.2.length - k ∧ t6 = .bool ((a.2.take k).any fun x => matF V [(a.1, x)]) ∧ Below w1.heap.size w1 wr
set_option maxRecDepth 100000 in
set_option maxHeartbeats 6400000 in
theorem combination_any (V : List VR) (m : MX) (v u : Value) (B C : Nat → Prop) (wV : wfVars V) (hm : m.wf) (w : World) (hV : EVar.Row B w V v) (hM : MAt C w u m) :
    Calls Tryz.prog 21 #[v, u] w fun e w' => e = .returned (.bool (combinF m V)) ∧ Below w.heap.size w w' := by
  obtain ⟨ao, ac, io, ic, eo, ec, rfl, hA, hI, hE⟩ := hM
  obtain ⟨vo, vc, rfl⟩ := hV.form
  obtain ⟨w1, hw1⟩ : ∃ w1, w.alloc (.cells #[.slice ao m.axes.length ac, .slice io m.incl.length ic, .slice eo m.excl.length ec] 25 (0, 0)) = w1 := ⟨_, rfl⟩
  have hk1 : w1.heap[w.heap.size]? = some (.cells #[.slice ao m.axes.length ac, .slice io m.incl.length ic, .slice eo m.excl.length ec] 25 (0, 0)) := by rw [← hw1]; exact hp_new rfl
  have HB1 : Hid (Below w.heap.size w w1) := by unfold Hid; rw [← hw1]; exact (Below.refl _ w).alloc (Nat.le_refl _) _
  have HF : Hid (∀ W' : World, Below w1.heap.size w1 W' → W'.cell? ⟨w.heap.size, 0, none⟩ = some (.slice ao m.axes.length ac)) := fun W' hb => cell_of_blk ((hb.block _ (Array.getElem?_eq_some_iff.1 hk1).1).trans hk1) 0
  have HX : Hid (∀ W' : World, Below w1.heap.size w1 W' → Below w.heap.size w W') := fun W' hb => HB1.out.trans (hb.mono HB1.out.size)
  have HV := Lib.hid hV
  have HA := Lib.hid hA
  have HWV := Lib.hid wV
  have HWA := Lib.hid hm.ax
  have hla := hm.la
  have HCF : Hid (combinF m V = (decide (V.length = m.axes.length) && decide (V.length ≠ 0) && m.axes.all fun a => a.2.any fun x => matF V [(a.1, x)])) := rfl
  have HW1 := Lib.hid hw1
  have hvl := wV.1
  clear hV hA wV hm hI hE hk1 hw1
  obtain ⟨iR, hiR, hzR, hnR, hyR⟩ := Tryz.vinfoVar'
  have HIR := Lib.hid hiR
  clear hiR
  by_cases hlen : V.length = m.axes.length
  · by_cases h0 : V.length = 0
    · have HR : Hid (combinF m V = false) := by unfold Hid; rw [HCF.out, h0]; simp
      have c0 := HF.out w1 (Below.refl _ _)
      have t1 : ((V.length : Int) == (m.axes.length : Int)) = true := by rw [hlen]; simp
      have t2 : ((V.length : Int) != (m.axes.length : Int)) = false := by rw [hlen]; simp
      have t3 : ((V.length : Int) == 0) = true := by rw [h0]; rfl
      have t4 : (V.length : Int) = (m.axes.length : Int) := by rw [hlen]
      clear HF HA HV HCF
      generalize hn : V.length = nv at *
      generalize m.axes.length = la at *
      clear hn
      subst hlen
      subst h0
      go_enter Tryz.func21, Tryz.ntmps21
      go_upto_region 1 with fail
      rw [HW1.out]
      clear HW1
      go_wp2_with fail
      go_ret
      exact ⟨by rw [HR.out] <;> rfl, HB1.out⟩
    · have t3 : ((V.length : Int) == 0) = false := beq_eq_false_iff_ne.2 (by omega)
      have t2 : ((V.length : Int) != (m.axes.length : Int)) = false := by rw [hlen]; simp
      have HR : Hid (combinF m V = m.axes.all fun a => a.2.any fun x => matF V [(a.1, x)]) := by unfold Hid; rw [HCF.out, decide_eq_true hlen, decide_eq_true h0]; rfl
      have c0 := HF.out w1 (Below.refl _ _)
      generalize combinF m V = r at *
      clear HCF hlen h0
      go_enter Tryz.func21, Tryz.ntmps21
      go_upto_region 1 with fail
      rw [HW1.out]
      clear HW1
      go_wp2_with fail
      clear c0
      go_loopg [5] m.axes.length (CmRel V m.axes w1)
      case atStart => exact ⟨0, rfl, Nat.zero_le _, rfl, rfl, Below.refl _ _⟩
      case round =>
        obtain ⟨wz, hwz⟩ : ∃ wz : World, wz = wr := ⟨_, rfl⟩
        subst hwz
        obtain ⟨i, rfl, hi, rfl, hall, hbel⟩ := hrel
        have HB := Lib.hid hbel
        have HAL := Lib.hid hall
        have c0 := HF.out wz hbel
        clear hbel hall
        by_cases hlt : i < m.axes.length
        · have hii : (i : Int) < (m.axes.length : Int) := by omega
          have hwa := HWA.out _ (List.getElem_mem hlt)
          have HN : Hid ((m.axes.take (i + 1)).all (fun a => a.2.any fun x => matF V [(a.1, x)]) = m.axes[i].2.any fun x => matF V [(m.axes[i].1, x)]) := by unfold Hid; rw [List.take_succ_eq_append_getElem hlt, List.all_append, HAL.out]; simp
          have HT : Hid ((m.axes[i].2.any fun x => matF V [(m.axes[i].1, x)]) = false → r = false) := fun h => by
            rw [HR.out, List.all_eq_false]
            exact ⟨_, List.getElem_mem hlt, by rw [h]; simp⟩
          obtain ⟨ba, oa, av, cv, hao, hba, y0, y1, hva⟩ := eax_at (HA.out.below (HX.out wz HB.out)) hlt
          subst hao
          have HVA := Lib.hid hva
          have HY : Hid (∀ W', Below wz.heap.size wz W' → W'.cell? ⟨ba, oa + i * 2, none⟩ = some (.string m.axes[i].1) ∧ W'.cell? ⟨ba, oa + i * 2 + 1, none⟩ = some (.slice av m.axes[i].2.length cv)) := fun W' hb => ⟨(hb.cell (p := ⟨ba, oa + i * 2, none⟩) hba).trans y0, (hb.cell (p := ⟨ba, oa + i * 2 + 1, none⟩) hba).trans y1⟩
          clear hva y0 y1
          generalize m.axes[i] = ax at *
          obtain ⟨nm, vals⟩ := ax
          have hwa1 := hwa.1
          have hwa2 := hwa.2.1
          have HWT := Lib.hid hwa.2.2
          clear hwa
          as_aux_lemma =>
          go_wp2_with fail
          clear c0
          go_loopg [6, 7] vals.length (CjnRel V (nm, vals) wz)
          case atStart => exact ⟨0, rfl, Nat.zero_le _, rfl, rfl, Below.refl _ _⟩
          case round =>
            obtain ⟨wv, hwv⟩ : ∃ wv : World, wv = wr := ⟨_, rfl⟩
            subst hwv
            obtain ⟨k, rfl, hk, rfl, rfl, hbv⟩ := hrel
            have HBV := Lib.hid hbv
            have HBV1 := Lib.hid (HB.out.trans (hbv.mono HB.out.size))
            have c0 := HF.out wv HBV1.out
            obtain ⟨y0, y1⟩ := HY.out wv HBV.out
            clear hbv
            by_cases hlk : k < vals.length
            · have hkk : (k : Int) < (vals.length : Int) := by omega
              have hkl : k < (nm, vals).2.length := hlk
              obtain ⟨bv, ov, cs, hav, _, hbv, hcell, hvc⟩ := (HVA.out.below HBV.out).at (k := k) hkl
              subst hav
              have HVC := Lib.hid hvc
              obtain ⟨lo, lc, ko, kc, rfl⟩ := vcellB_slices hvc
              have hwt := HWT.out _ (List.getElem_mem hlk)
              have HNK : Hid ((vals.take (k + 1)).any (fun x => matF V [(nm, x)]) = ((vals.take k).any (fun x => matF V [(nm, x)]) || matF V [(nm, vals[k])])) := by unfold Hid; rw [List.take_succ_eq_append_getElem hlk, List.any_append]; simp
              have MT : Hid (∀ W' b, Below wv.heap.size wv W' → W'.heap[b]? = some (.cells #[.string nm, .int .i64 vals[k].kind, .bool vals[k].bool, .int .i64 vals[k].int, .string vals[k].str, .slice lo vals[k].list.length lc, .slice ko vals[k].keys.length kc] 48 (0, 0)) → Calls Tryz.prog 15 #[.slice vo V.length vc, .slice (some ⟨b, 0, none⟩) 1 1] W' fun e w' => e = .returned (.bool (matF V [(nm, vals[k])])) ∧ Below W'.heap.size W' w') := fun W' b hb hk8 => matches_any V [(nm, vals[k])] _ _ B (fun _ => True) HWV.out.1 (by show 1 ≤ 9223372036854775807; decide) (fun x hx => (HWV.out.2 x hx).2) (fun x hx => by rw [List.mem_singleton.1 hx]; exact hwt) W' (HV.out.below ((HX.out wv HBV1.out).trans (hb.mono (HX.out wv HBV1.out).size)))
                (ElemK.Row.ofBlock [[.string nm, .int .i64 vals[k].kind, .bool vals[k].bool, .int .i64 vals[k].int, .string vals[k].str, .slice lo vals[k].list.length lc, .slice ko vals[k].keys.length kc]] hk8 rfl rfl (fun j h1 h2 => by
                  rcases j with _ | j
                  · exact evar_mk (x := (nm, vals[k])) (EVal.mono (EVal.keep HVC.out hb.size fun b _ hl => hb.block b hl) (fun _ _ => trivial))
                  · simp at h2) trivial (Nat.le_refl _))
              have HS : Hid (∀ W' : World, Below wv.heap.size wv W' → W'.cell? ⟨w.heap.size, 0, none⟩ = some (.slice (some ⟨ba, oa, none⟩) m.axes.length ac) ∧ W'.cell? ⟨ba, oa + i * 2, none⟩ = some (.string nm) ∧ W'.cell? ⟨ba, oa + i * 2 + 1, none⟩ = some (.slice (some ⟨bv, ov, none⟩) vals.length cv) ∧ W'.cell? ⟨bv, ov + k * 6, none⟩ = some (.int .i64 vals[k].kind) ∧ W'.cell? ⟨bv, ov + k * 6 + 1, none⟩ = some (.bool vals[k].bool) ∧ W'.cell? ⟨bv, ov + k * 6 + 2, none⟩ = some (.int .i64 vals[k].int) ∧ W'.cell? ⟨bv, ov + k * 6 + 3, none⟩ = some (.string vals[k].str) ∧ W'.cell? ⟨bv, ov + k * 6 + 4, none⟩ = some (.slice lo vals[k].list.length lc) ∧ W'.cell? ⟨bv, ov + k * 6 + 5, none⟩ = some (.slice ko vals[k].keys.length kc)) := fun W' hb => by
                obtain ⟨q0, q1⟩ := HY.out W' (HBV.out.trans (hb.mono HBV.out.size))
                exact ⟨HF.out W' (HBV1.out.trans (hb.mono HBV1.out.size)), q0, q1, (hb.cell (p := ⟨bv, ov + k * 6, none⟩) hbv).trans (hcell 0 _ rfl), (hb.cell (p := ⟨bv, ov + k * 6 + 1, none⟩) hbv).trans (hcell 1 _ rfl), (hb.cell (p := ⟨bv, ov + k * 6 + 2, none⟩) hbv).trans (hcell 2 _ rfl), (hb.cell (p := ⟨bv, ov + k * 6 + 3, none⟩) hbv).trans (hcell 3 _ rfl), (hb.cell (p := ⟨bv, ov + k * 6 + 4, none⟩) hbv).trans (hcell 4 _ rfl), (hb.cell (p := ⟨bv, ov + k * 6 + 5, none⟩) hbv).trans (hcell 5 _ rfl)⟩
              have HDR : Hid (Below wv.heap.size wv wv.drew) := (Below.refl _ _).drew
              clear hcell hvc HVC hwt
              generalize matF V [(nm, vals[k])] = d2 at *
              generalize vals[k].kind = x0 at *
              generalize vals[k].bool = x1 at *
              generalize vals[k].int = x2 at *
              generalize vals[k].str = x3 at *
              generalize vals[k].list.length = ll at *
              generalize vals[k].keys.length = kl at *
              generalize (vals.take k).any (fun x => matF V [(nm, x)]) = d at *
              as_aux_lemma =>
              go_upto_region 10 with fail
              clear c0 y0 y1
              cases d
              · as_aux_lemma =>
                refine wp_region_Z (S := fun W' : World => W'.cell? ⟨w.heap.size, 0, none⟩ = some (.slice (some ⟨ba, oa, none⟩) m.axes.length ac) ∧ W'.cell? ⟨ba, oa + i * 2, none⟩ = some (.string nm) ∧ W'.cell? ⟨ba, oa + i * 2 + 1, none⟩ = some (.slice (some ⟨bv, ov, none⟩) vals.length cv) ∧ W'.cell? ⟨bv, ov + k * 6, none⟩ = some (.int .i64 x0) ∧ W'.cell? ⟨bv, ov + k * 6 + 1, none⟩ = some (.bool x1) ∧ W'.cell? ⟨bv, ov + k * 6 + 2, none⟩ = some (.int .i64 x2) ∧ W'.cell? ⟨bv, ov + k * 6 + 3, none⟩ = some (.string x3) ∧ W'.cell? ⟨bv, ov + k * 6 + 4, none⟩ = some (.slice lo ll lc) ∧ W'.cell? ⟨bv, ov + k * 6 + 5, none⟩ = some (.slice ko kl kc)) 22 (by kernel_rfl) (HS.out _ HDR.out) (fun hHeld => ?_)
                refine wpAnyZ_takeL (i := 0) (v := ?_) rfl (by kernel_rfl) (by kernel_rfl) (by kernel_rfl) (by kernel_rfl) (fun _ _ _ h => h) (Or.inl ⟨by rfl, ?_⟩) (by assumption) ?_
                rotate_left
                · (intro w hSw; (try dsimp only at hSw); go_simp; try with_reducible rfl)
                try simp only [Act.put, List.setIfInBounds_toArray, List.set_cons_zero, List.set_cons_succ]
                refine wpAnyZ_takeL (i := 1) (v := ?_) rfl (by kernel_rfl) (by kernel_rfl) (by kernel_rfl) (by kernel_rfl) (fun _ _ _ h => h) (Or.inl ⟨by rfl, ?_⟩) (by assumption) ?_
                rotate_left
                · (intro w hSw; (try dsimp only at hSw); go_simp; try with_reducible rfl)
                try simp only [Act.put, List.setIfInBounds_toArray, List.set_cons_zero, List.set_cons_succ]
                refine wpAnyZ_takeL (i := 2) (v := ?_) rfl (by kernel_rfl) (by kernel_rfl) (by kernel_rfl) (by kernel_rfl) (fun _ _ _ h => h) (Or.inl ⟨by rfl, ?_⟩) (by assumption) ?_
                rotate_left
                · (intro w hSw; (try dsimp only at hSw); go_simp; try with_reducible rfl)
                try simp only [Act.put, List.setIfInBounds_toArray, List.set_cons_zero, List.set_cons_succ]
                refine wpAnyZ_takeL (i := 3) (v := ?_) rfl (by kernel_rfl) (by kernel_rfl) (by kernel_rfl) (by kernel_rfl) (fun _ _ _ h => h) (Or.inl ⟨by rfl, ?_⟩) (by assumption) ?_
                rotate_left
                · (intro w hSw; (try dsimp only at hSw); go_simp; try with_reducible rfl)
                try simp only [Act.put, List.setIfInBounds_toArray, List.set_cons_zero, List.set_cons_succ]
                refine wpAnyZ_takeL (i := 4) (v := ?_) rfl (by kernel_rfl) (by kernel_rfl) (by kernel_rfl) (by kernel_rfl) (fun _ _ _ h => h) (Or.inl ⟨by rfl, ?_⟩) (by assumption) ?_
                rotate_left
                · (intro w hSw; (try dsimp only at hSw); go_simp; try with_reducible rfl)
                try simp only [Act.put, List.setIfInBounds_toArray, List.set_cons_zero, List.set_cons_succ]
                refine wpAnyZ_takeL (i := 5) (v := ?_) rfl (by kernel_rfl) (by kernel_rfl) (by kernel_rfl) (by kernel_rfl) (fun _ _ _ h => h) (Or.inl ⟨by rfl, ?_⟩) (by assumption) ?_
                rotate_left
                · (intro w hSw; (try dsimp only at hSw); go_simp; try with_reducible rfl)
                try simp only [Act.put, List.setIfInBounds_toArray, List.set_cons_zero, List.set_cons_succ]
                refine wpAnyZ_takeL (i := 6) (v := ?_) rfl (by kernel_rfl) (by kernel_rfl) (by kernel_rfl) (by kernel_rfl) (fun _ _ _ h => h) (Or.inl ⟨by rfl, ?_⟩) (by assumption) ?_
                rotate_left
                · (intro w hSw; (try dsimp only at hSw); go_simp; try with_reducible rfl)
                try simp only [Act.put, List.setIfInBounds_toArray, List.set_cons_zero, List.set_cons_succ]
                refine wpAnyZ_takeL (i := 7) (v := ?_) rfl (by kernel_rfl) (by kernel_rfl) (by kernel_rfl) (by kernel_rfl) (fun _ _ _ h => h) (Or.inl ⟨by rfl, ?_⟩) (by assumption) ?_
                rotate_left
                · (intro w hSw; (try dsimp only at hSw); go_simp; try with_reducible rfl)
                try simp only [Act.put, List.setIfInBounds_toArray, List.set_cons_zero, List.set_cons_succ]
                refine wpAnyZ_takeL (i := 8) (v := ?_) rfl (by kernel_rfl) (by kernel_rfl) (by kernel_rfl) (by kernel_rfl) (fun _ _ _ h => h) (Or.inl ⟨by rfl, ?_⟩) (by assumption) ?_
                rotate_left
                · (intro w hSw; (try dsimp only at hSw); go_simp; try with_reducible rfl)
                try simp only [Act.put, List.setIfInBounds_toArray, List.set_cons_zero, List.set_cons_succ]
                refine wpAnyZ_takeL (i := 9) (v := ?_) rfl (by kernel_rfl) (by kernel_rfl) (by kernel_rfl) (by kernel_rfl) (fun _ _ _ h => h) (Or.inl ⟨by rfl, ?_⟩) (by assumption) ?_
                rotate_left
                · (intro w hSw; (try dsimp only at hSw); go_simp; try with_reducible rfl)
                try simp only [Act.put, List.setIfInBounds_toArray, List.set_cons_zero, List.set_cons_succ]
                refine wpAnyZ_takeL (i := 10) (v := ?_) rfl (by kernel_rfl) (by kernel_rfl) (by kernel_rfl) (by kernel_rfl) (fun _ _ _ h => h) (Or.inl ⟨by rfl, ?_⟩) (by assumption) ?_
                rotate_left
                · (intro w hSw; (try dsimp only at hSw); go_simp; try with_reducible rfl)
                try simp only [Act.put, List.setIfInBounds_toArray, List.set_cons_zero, List.set_cons_succ]
                refine wpAnyZ_takeL (i := 11) (v := ?_) rfl (by kernel_rfl) (by kernel_rfl) (by kernel_rfl) (by kernel_rfl) (fun _ _ _ h => h) (Or.inl ⟨by rfl, ?_⟩) (by assumption) ?_
                rotate_left
                · (intro w hSw; (try dsimp only at hSw); go_simp; try with_reducible rfl)
                try simp only [Act.put, List.setIfInBounds_toArray, List.set_cons_zero, List.set_cons_succ]
                refine wpAnyZ_takeL (i := 12) (v := ?_) rfl (by kernel_rfl) (by kernel_rfl) (by kernel_rfl) (by kernel_rfl) (fun _ _ _ h => h) (Or.inl ⟨by rfl, ?_⟩) (by assumption) ?_
                rotate_left
                · (intro w hSw; (try dsimp only at hSw); go_simp; try with_reducible rfl)
                try simp only [Act.put, List.setIfInBounds_toArray, List.set_cons_zero, List.set_cons_succ]
                refine wpAnyZ_takeL (i := 13) (v := ?_) rfl (by kernel_rfl) (by kernel_rfl) (by kernel_rfl) (by kernel_rfl) (fun _ _ _ h => h) (Or.inl ⟨by rfl, ?_⟩) (by assumption) ?_
                rotate_left
                · (intro w hSw; (try dsimp only at hSw); go_simp; try with_reducible rfl)
                try simp only [Act.put, List.setIfInBounds_toArray, List.set_cons_zero, List.set_cons_succ]
                refine wpAnyZ_takeL (i := 14) (v := ?_) rfl (by kernel_rfl) (by kernel_rfl) (by kernel_rfl) (by kernel_rfl) (fun _ _ _ h => h) (Or.inl ⟨by rfl, ?_⟩) (by assumption) ?_
                rotate_left
                · (intro w hSw; (try dsimp only at hSw); go_simp; try with_reducible rfl)
                try simp only [Act.put, List.setIfInBounds_toArray, List.set_cons_zero, List.set_cons_succ]
                refine wpAnyZ_takeL (i := 15) (v := ?_) rfl (by kernel_rfl) (by kernel_rfl) (by kernel_rfl) (by kernel_rfl) (fun _ _ _ h => h) (Or.inl ⟨by rfl, ?_⟩) (by assumption) ?_
                rotate_left
                · (intro w hSw; (try dsimp only at hSw); go_simp; try with_reducible rfl)
                try simp only [Act.put, List.setIfInBounds_toArray, List.set_cons_zero, List.set_cons_succ]
                refine wpAnyZ_takeL (i := 16) (v := ?_) rfl (by kernel_rfl) (by kernel_rfl) (by kernel_rfl) (by kernel_rfl) (fun _ _ _ h => h) (Or.inl ⟨by rfl, ?_⟩) (by assumption) ?_
                rotate_left
                · (intro w hSw; (try dsimp only at hSw); go_simp; try with_reducible rfl)
                try simp only [Act.put, List.setIfInBounds_toArray, List.set_cons_zero, List.set_cons_succ]
                refine wpAnyZ_takeL (i := 17) (v := ?_) rfl (by kernel_rfl) (by kernel_rfl) (by kernel_rfl) (by kernel_rfl) (fun _ _ _ h => h) (Or.inl ⟨by rfl, ?_⟩) (by assumption) ?_
                rotate_left
                · (intro w hSw; (try dsimp only at hSw); go_simp; try with_reducible rfl)
                try simp only [Act.put, List.setIfInBounds_toArray, List.set_cons_zero, List.set_cons_succ]
                obtain ⟨wd, hwd⟩ : ∃ wd, wv.drew = wd := ⟨_, rfl⟩
                rw [hwd] at HDR ⊢
                clear hwd
                refine wpAnyZ_oneL (i := 18) (by kernel_rfl) rfl (fun K hK => ?_)
                rw [if_pos (by rfl)]
                refine wp_build2M 48 (.tmp 45) (.tmp 54) rfl (.string nm) (.agg #[.int .i64 x0, .bool x1, .int .i64 x2, .string x3, .slice lo ll lc, .slice ko kl kc]) rfl rfl _ (Tryz.built_var _ _ _ _ _ _ _) ?_
                refine hK.out _ _ (fun _ => HS.out _ HDR.out) (fun hHeld => ?_)
                replace hHeld := hHeld (by decide)
                clear hK K
                try simp only [Act.put, List.setIfInBounds_toArray, List.set_cons_zero, List.set_cons_succ]
                refine wpAnyZ_oneL (i := 19) (by kernel_rfl) rfl (fun K hK => ?_)
                rw [if_pos (by rfl)]
                refine wp_build1 36 48 (.tmp 55) rfl #[.string nm, .int .i64 x0, .bool x1, .int .i64 x2, .string x3, .slice lo ll lc, .slice ko kl kc] iR _ Tryz.underlying36 HIR.out hzR 7 hnR (by decide) (by decide) rfl rfl ?_
                obtain ⟨W8, hW8⟩ : ∃ W8, wd.alloc (.cells #[.string nm, .int .i64 x0, .bool x1, .int .i64 x2, .string x3, .slice lo ll lc, .slice ko kl kc] 48) = W8 := ⟨_, rfl⟩
                have hb8 : Below wd.heap.size wd W8 := by rw [← hW8]; exact (Below.refl _ _).alloc (Nat.le_refl _) _
                have hk8 : W8.heap[wd.heap.size]? = some (.cells #[.string nm, .int .i64 x0, .bool x1, .int .i64 x2, .string x3, .slice lo ll lc, .slice ko kl kc] 48 (0, 0)) := by rw [← hW8]; exact hp_new rfl
                have HB8 := Lib.hid (HDR.out.trans (hb8.mono HDR.out.size))
                have MT8 := Lib.hid (MT.out W8 wd.heap.size HB8.out hk8)
                rw [hW8]
                clear hW8 hb8 hk8
                refine hK.out _ _ (fun _ => HS.out _ HB8.out) (fun hHeld => ?_)
                replace hHeld := hHeld (by decide)
                clear hK K
                try simp only [Act.put, List.setIfInBounds_toArray, List.set_cons_zero, List.set_cons_succ]
                refine wpAnyZ_oneL (i := 20) (by kernel_rfl) rfl (fun K hK => ?_)
                go_simp
                go_at_call 15
                refine MT8.out.mono ?_
                rintro e w9 ⟨rfl, hb⟩
                have HB9 := Lib.hid (HB8.out.trans (hb.mono HB8.out.size))
                clear hb MT8
                refine hK.out _ _ (fun _ => HS.out _ HB9.out) (fun hHeld => ?_)
                replace hHeld := hHeld (by decide)
                clear hK K
                try simp only [Act.put, List.setIfInBounds_toArray, List.set_cons_zero, List.set_cons_succ]
                refine wpAnyZ_takeL (i := 21) (v := ?_) rfl (by kernel_rfl) (by kernel_rfl) (by kernel_rfl) (by kernel_rfl) (fun _ _ _ h => h) (Or.inl ⟨by rfl, ?_⟩) (by assumption) ?_
                rotate_left
                · (intro w hSw; (try dsimp only at hSw); go_simp; try with_reducible rfl)
                try simp only [Act.put, List.setIfInBounds_toArray, List.set_cons_zero, List.set_cons_succ]
                refine wpAnyZ_oneL (i := 22) (by kernel_rfl) rfl (fun K hK => ?_)
                go_simp
                refine hK.out _ _ (fun h => absurd h (by decide)) (fun _ => ?_)
                clear hK K
                try simp only [Act.put, List.setIfInBounds_toArray, List.set_cons_zero, List.set_cons_succ]
                refine wpAnyZ_done (by kernel_rfl) ?_ _
                clear hHeld
                go_wp2_with fail
                go_roundg (vals.length - (k + 1))
                case measure => omega
                case rel => exact ⟨k + 1, by go_num, (show k + 1 ≤ vals.length by omega), rfl, congrArg Value.bool (by rw [HNK.out]; simp), HBV.out.trans (HB9.out.mono HBV.out.size)⟩
              · as_aux_lemma =>
                refine wp_region_Z (S := fun _ : World => True) 22 (by kernel_rfl) trivial (fun hHeld => ?_)
                refine wpAnyZ_takeL (i := 0) (v := ?_) rfl (by kernel_rfl) (by kernel_rfl) (by kernel_rfl) (by kernel_rfl) (fun _ _ _ h => h) (Or.inl ⟨by rfl, ?_⟩) (by assumption) ?_
                rotate_left
                · (intro w hSw; (try dsimp only at hSw); go_simp; try with_reducible rfl)
                try simp only [Act.put, List.setIfInBounds_toArray, List.set_cons_zero, List.set_cons_succ]
                refine wpAnyZ_takeL (i := 1) (v := ?_) rfl (by kernel_rfl) (by kernel_rfl) (by kernel_rfl) (by kernel_rfl) (fun _ _ _ h => h) (Or.inl ⟨by rfl, ?_⟩) (by assumption) ?_
                rotate_left
                · (intro w hSw; (try dsimp only at hSw); go_simp; try with_reducible rfl)
                try simp only [Act.put, List.setIfInBounds_toArray, List.set_cons_zero, List.set_cons_succ]
                refine wpAnyZ_takeL (i := 2) (v := undef) rfl (by kernel_rfl) (by kernel_rfl) (by kernel_rfl) (by kernel_rfl) (fun _ _ _ h => h) (Or.inr ⟨by rfl, rfl⟩) (by assumption) ?_
                try simp only [Act.put, List.setIfInBounds_toArray, List.set_cons_zero, List.set_cons_succ]
                refine wpAnyZ_takeL (i := 3) (v := undef) rfl (by kernel_rfl) (by kernel_rfl) (by kernel_rfl) (by kernel_rfl) (fun _ _ _ h => h) (Or.inr ⟨by rfl, rfl⟩) (by assumption) ?_
                try simp only [Act.put, List.setIfInBounds_toArray, List.set_cons_zero, List.set_cons_succ]
                refine wpAnyZ_takeL (i := 4) (v := undef) rfl (by kernel_rfl) (by kernel_rfl) (by kernel_rfl) (by kernel_rfl) (fun _ _ _ h => h) (Or.inr ⟨by rfl, rfl⟩) (by assumption) ?_
                try simp only [Act.put, List.setIfInBounds_toArray, List.set_cons_zero, List.set_cons_succ]
                refine wpAnyZ_takeL (i := 5) (v := undef) rfl (by kernel_rfl) (by kernel_rfl) (by kernel_rfl) (by kernel_rfl) (fun _ _ _ h => h) (Or.inr ⟨by rfl, rfl⟩) (by assumption) ?_
                try simp only [Act.put, List.setIfInBounds_toArray, List.set_cons_zero, List.set_cons_succ]
                refine wpAnyZ_takeL (i := 6) (v := undef) rfl (by kernel_rfl) (by kernel_rfl) (by kernel_rfl) (by kernel_rfl) (fun _ _ _ h => h) (Or.inr ⟨by rfl, rfl⟩) (by assumption) ?_
                try simp only [Act.put, List.setIfInBounds_toArray, List.set_cons_zero, List.set_cons_succ]
                refine wpAnyZ_takeL (i := 7) (v := undef) rfl (by kernel_rfl) (by kernel_rfl) (by kernel_rfl) (by kernel_rfl) (fun _ _ _ h => h) (Or.inr ⟨by rfl, rfl⟩) (by assumption) ?_
                try simp only [Act.put, List.setIfInBounds_toArray, List.set_cons_zero, List.set_cons_succ]
                refine wpAnyZ_takeL (i := 8) (v := undef) rfl (by kernel_rfl) (by kernel_rfl) (by kernel_rfl) (by kernel_rfl) (fun _ _ _ h => h) (Or.inr ⟨by rfl, rfl⟩) (by assumption) ?_
                try simp only [Act.put, List.setIfInBounds_toArray, List.set_cons_zero, List.set_cons_succ]
                refine wpAnyZ_takeL (i := 9) (v := undef) rfl (by kernel_rfl) (by kernel_rfl) (by kernel_rfl) (by kernel_rfl) (fun _ _ _ h => h) (Or.inr ⟨by rfl, rfl⟩) (by assumption) ?_
                try simp only [Act.put, List.setIfInBounds_toArray, List.set_cons_zero, List.set_cons_succ]
                refine wpAnyZ_takeL (i := 10) (v := undef) rfl (by kernel_rfl) (by kernel_rfl) (by kernel_rfl) (by kernel_rfl) (fun _ _ _ h => h) (Or.inr ⟨by rfl, rfl⟩) (by assumption) ?_
                try simp only [Act.put, List.setIfInBounds_toArray, List.set_cons_zero, List.set_cons_succ]
                refine wpAnyZ_takeL (i := 11) (v := undef) rfl (by kernel_rfl) (by kernel_rfl) (by kernel_rfl) (by kernel_rfl) (fun _ _ _ h => h) (Or.inr ⟨by rfl, rfl⟩) (by assumption) ?_
                try simp only [Act.put, List.setIfInBounds_toArray, List.set_cons_zero, List.set_cons_succ]
                refine wpAnyZ_takeL (i := 12) (v := undef) rfl (by kernel_rfl) (by kernel_rfl) (by kernel_rfl) (by kernel_rfl) (fun _ _ _ h => h) (Or.inr ⟨by rfl, rfl⟩) (by assumption) ?_
                try simp only [Act.put, List.setIfInBounds_toArray, List.set_cons_zero, List.set_cons_succ]
                refine wpAnyZ_takeL (i := 13) (v := undef) rfl (by kernel_rfl) (by kernel_rfl) (by kernel_rfl) (by kernel_rfl) (fun _ _ _ h => h) (Or.inr ⟨by rfl, rfl⟩) (by assumption) ?_
                try simp only [Act.put, List.setIfInBounds_toArray, List.set_cons_zero, List.set_cons_succ]
                refine wpAnyZ_takeL (i := 14) (v := undef) rfl (by kernel_rfl) (by kernel_rfl) (by kernel_rfl) (by kernel_rfl) (fun _ _ _ h => h) (Or.inr ⟨by rfl, rfl⟩) (by assumption) ?_
                try simp only [Act.put, List.setIfInBounds_toArray, List.set_cons_zero, List.set_cons_succ]
                refine wpAnyZ_takeL (i := 15) (v := undef) rfl (by kernel_rfl) (by kernel_rfl) (by kernel_rfl) (by kernel_rfl) (fun _ _ _ h => h) (Or.inr ⟨by rfl, rfl⟩) (by assumption) ?_
                try simp only [Act.put, List.setIfInBounds_toArray, List.set_cons_zero, List.set_cons_succ]
                refine wpAnyZ_takeL (i := 16) (v := undef) rfl (by kernel_rfl) (by kernel_rfl) (by kernel_rfl) (by kernel_rfl) (fun _ _ _ h => h) (Or.inr ⟨by rfl, rfl⟩) (by assumption) ?_
                try simp only [Act.put, List.setIfInBounds_toArray, List.set_cons_zero, List.set_cons_succ]
                refine wpAnyZ_takeL (i := 17) (v := undef) rfl (by kernel_rfl) (by kernel_rfl) (by kernel_rfl) (by kernel_rfl) (fun _ _ _ h => h) (Or.inr ⟨by rfl, rfl⟩) (by assumption) ?_
                try simp only [Act.put, List.setIfInBounds_toArray, List.set_cons_zero, List.set_cons_succ]
                refine wpAnyZ_takeL (i := 18) (v := undef) rfl (by kernel_rfl) (by kernel_rfl) (by kernel_rfl) (by kernel_rfl) (fun _ _ _ h => h) (Or.inr ⟨by rfl, rfl⟩) (by assumption) ?_
                try simp only [Act.put, List.setIfInBounds_toArray, List.set_cons_zero, List.set_cons_succ]
                refine wpAnyZ_oneL (i := 19) (by kernel_rfl) rfl (fun K hK => ?_)
                rw [if_neg (by intro h; exact Bool.noConfusion (show false = true from h))]
                refine hK.out _ _ (fun _ => trivial) (fun hHeld => ?_)
                replace hHeld := hHeld (by decide)
                clear hK K
                try simp only [Act.put, List.setIfInBounds_toArray, List.set_cons_zero, List.set_cons_succ]
                refine wpAnyZ_oneL (i := 20) (by kernel_rfl) rfl (fun K hK => ?_)
                rw [if_neg (by intro h; exact Bool.noConfusion (show false = true from h))]
                refine hK.out _ _ (fun _ => trivial) (fun hHeld => ?_)
                replace hHeld := hHeld (by decide)
                clear hK K
                try simp only [Act.put, List.setIfInBounds_toArray, List.set_cons_zero, List.set_cons_succ]
                refine wpAnyZ_takeL (i := 21) (v := ?_) rfl (by kernel_rfl) (by kernel_rfl) (by kernel_rfl) (by kernel_rfl) (fun _ _ _ h => h) (Or.inl ⟨by rfl, ?_⟩) (by assumption) ?_
                rotate_left
                · (intro w hSw; (try dsimp only at hSw); go_simp; try with_reducible rfl)
                try simp only [Act.put, List.setIfInBounds_toArray, List.set_cons_zero, List.set_cons_succ]
                refine wpAnyZ_oneL (i := 22) (by kernel_rfl) rfl (fun K hK => ?_)
                go_simp
                refine hK.out _ _ (fun h => absurd h (by decide)) (fun _ => ?_)
                clear hK K
                try simp only [Act.put, List.setIfInBounds_toArray, List.set_cons_zero, List.set_cons_succ]
                refine wpAnyZ_done (by kernel_rfl) ?_ _
                clear hHeld
                go_wp2_with fail
                go_roundg (vals.length - (k + 1))
                case measure => omega
                case rel => exact ⟨k + 1, by go_num, (show k + 1 ≤ vals.length by omega), rfl, congrArg Value.bool (by rw [HNK.out]; simp), HBV.out.trans (HDR.out.mono HBV.out.size)⟩
            · have hkk : ¬ (k : Int) < (vals.length : Int) := by omega
              have he : k = vals.length := by have : k ≤ vals.length := hk; omega
              have e2 : (vals.take k).any (fun x => matF V [(nm, x)]) = vals.any (fun x => matF V [(nm, x)]) := by rw [he, List.take_length]
              have e3 : ((nm, vals) : AX).2.take k = vals.take k := rfl
              rw [e3, e2]
              generalize vals.any (fun x => matF V [(nm, x)]) = d at *
              clear he e2 e3 hlk hk
              cases d
              · have hr := HT.out rfl
                subst hr
                as_aux_lemma =>
                go_wp2_with fail
                go_ret
                exact ⟨rfl, HX.out _ HBV1.out⟩
              · as_aux_lemma =>
                go_wp2_with fail
                go_roundg (m.axes.length - (i + 1))
                case measure => omega
                case rel => exact ⟨i + 1, by go_num, by omega, rfl, HN.out, HBV1.out⟩
        · have hii : ¬ (i : Int) < (m.axes.length : Int) := by omega
          have he : i = m.axes.length := by omega
          have hr : r = true := by rw [HR.out, ← HAL.out, he, List.take_length]
          subst hr
          clear he hlt hi
          as_aux_lemma =>
          go_wp2_with fail
          go_ret
          exact ⟨rfl, HX.out _ HB.out⟩
  · have HR : Hid (combinF m V = false) := by unfold Hid; rw [HCF.out, decide_eq_false hlen]; rfl
    have c0 := HF.out w1 (Below.refl _ _)
    have t2 : ((V.length : Int) != (m.axes.length : Int)) = true := by simp; omega
    have t4 : ¬ (V.length : Int) = (m.axes.length : Int) := by omega
    clear HF HA HV HCF
    go_enter Tryz.func21, Tryz.ntmps21
    go_upto_region 1 with fail
    rw [HW1.out]
    clear HW1
    go_wp2_with fail
    go_ret
    exact ⟨by rw [HR.out] <;> rfl, HB1.out⟩
end Go.Proofs.YtomecnncighkgaaGreatDoor
/- The walk over the law MatrixExact. -/
namespace Go.Proofs.YtomecnncighkgaaGreatDoor
open Go.RowKit Go.Deep

/-- the variable that a choice takes of an axis -/
def chV (C : List Nat) (i : Nat) (a : AX) : VR := (a.1, (a.2[C.getD i 0 % a.2.length]?).getD VT.zero)
def chTo (C : List Nat) : Nat → List AX → List VR
  | _, [] => []
  | s, a :: l => chV C s a :: chTo C (s + 1) l
theorem chTo_snoc (C : List Nat) : ∀ (l : List AX) (s : Nat) (a : AX), chTo C s (l ++ [a]) = chTo C s l ++ [chV C (s + l.length) a]
  | [], _, _ => rfl
  | b :: l, s, a => by
    rw [List.cons_append, chTo, chTo_snoc C l, chTo, List.length_cons, List.cons_append, show s + 1 + l.length = s + (l.length + 1) by omega]
theorem chV_mem {C : List Nat} {i : Nat} {a : AX} (h : 0 < a.2.length) : chV C i a = (a.1, a.2[C.getD i 0 % a.2.length]'(Nat.mod_lt _ h)) := by
  unfold chV
  rw [List.getElem?_eq_getElem (Nat.mod_lt _ h)]
  rfl
theorem chTo_isC (C : List Nat) : ∀ (l : List AX) (s : Nat), (∀ a ∈ l, 0 < a.2.length) → IsC l (chTo C s l)
  | [], _, _ => trivial
  | a :: l, s, h => by
    have h0 := h a (List.mem_cons_self ..)
    rw [chTo, IsC]
    exact ⟨⟨rfl, by rw [chV_mem h0]; exact List.getElem_mem _⟩, chTo_isC C l (s + 1) fun b hb => h b (List.mem_cons_of_mem _ hb)⟩
theorem isC_from : ∀ {l : List AX} {c : List VR}, IsC l c → ∀ x ∈ c, ∃ a ∈ l, x.1 = a.1 ∧ x.2 ∈ a.2
  | [], [], _, x, hx => by cases hx
  | [], _ :: _, h, _, _ => by simp [IsC] at h
  | _ :: _, [], h, _, _ => by simp [IsC] at h
  | a :: l, y :: c, h, x, hx => by
    rw [IsC] at h
    rcases List.mem_cons.1 hx with rfl | hx
    · exact ⟨a, List.mem_cons_self .., h.1⟩
    · obtain ⟨b, hb, e⟩ := isC_from h.2 x hx
      exact ⟨b, List.mem_cons_of_mem _ hb, e⟩
theorem isC_vars {m : MX} (hm : m.wf) {c : List VR} (h : IsC m.axes c) : wfVars c := by
  refine ⟨by rw [isC_len h]; exact hm.la, fun x hx => ?_⟩
  obtain ⟨a, ha, e1, e2⟩ := isC_from h x hx
  obtain ⟨h1, _, h3⟩ := hm.ax a ha
  exact ⟨by rw [e1]; exact h1, h3 _ e2⟩
theorem exp_zero {m : MX} (h : expE m = 0) : validM m = 0 ∧ expL m = outF m := by
  refine ⟨?_, by unfold expL; rw [if_pos h]⟩
  by_cases hv : validM m = 0
  · exact hv
  · unfold expE at h; rw [if_pos hv] at h; exact h
theorem exp_nil {m : MX} (h : expE m ≠ 0) : (expL m).length = 0 := by unfold expL; rw [if_neg h]; rfl
theorem asc_at {l : List VR} (h : AscN nmR l) {j k : Nat} (hjk : j < k) (hk : k < l.length) : natC (nmR (l[j]'(by omega))) (nmR l[k]) < 0 := (List.pairwise_iff_getElem.1 h) j k (by omega) hk hjk
theorem getD_lt8 {C : List Nat} {i : Nat} (h : i < C.length) : C.getD i 0 = C[i] := by rw [List.getD, List.getElem?_eq_getElem h]; rfl
theorem getD_ge8 {C : List Nat} {i : Nat} (h : ¬ i < C.length) : C.getD i 0 = 0 := by rw [List.getD, List.getElem?_eq_none (by omega)]; rfl
theorem tmod_natM (a b : Nat) : Int.tmod (a : Int) (b : Int) = ((a % b : Nat) : Int) := by
  rw [Int.tmod_eq_emod_of_nonneg (by omega)]
  omega

def LpRel (n : Nat) (w3 : World) (f : Nat) (t : Value) (wr : World) : Prop :=
  ∃ i : Nat, t = .int .i64 (i : Nat) ∧ i ≤ n ∧ f = n - i ∧ Below w3.heap.size w3 wr
def LqRel (n : Nat) (w3 : World) (f : Nat) (t : Value) (wr : World) : Prop :=
  ∃ k : Nat, t = .int .i64 (k : Nat) ∧ 1 ≤ k ∧ k ≤ n + 1 ∧ f = n - k ∧ Below w3.heap.size w3 wr
def LwRel (C : List Nat) (A : List AX) (w w5 : World) (f : Nat) (t10 t11 : Value) (wr : World) : Prop :=
  ∃ i : Nat, t11 = .int .i64 (i : Nat) ∧ i ≤ A.length ∧ f = A.length - i ∧ (∀ a ∈ A.take i, 0 < a.2.length) ∧ EVar.Own 48 w5.heap.size (fun b => b < w.heap.size) wr (chTo C 0 (A.take i)) t10 ∧ Below w5.heap.size w5 wr

/-- what the walk asks of the instances -/
structure ExO (m : MX) (O : List (List VR)) : Prop where
  le : O.length ≤ 256
  wf : ∀ x ∈ O, wfVars x
  own : ∀ (i : Nat) (hi : i < O.length), withF O[i] O = 1
  asc : ∀ (i : Nat) (hi : i < O.length), AscN nmR O[i]
  com : ∀ (i : Nat) (hi : i < O.length), withF O[i] m.incl = 0 → exclF m O[i] = false ∧ combinF m O[i] = true
  inc : ∀ (i : Nat) (hi : i < m.incl.length), withF m.incl[i] O = 1
  cho : ∀ c : List VR, IsC m.axes c → m.axes ≠ [] → exclF m c = false → withF c O = 1
theorem exO_of {m : MX} (hw : m.wf) (h : expE m = 0) : ExO m (expL m) := by
  obtain ⟨h1, h2⟩ := exp_wf hw
  obtain ⟨hv, he⟩ := exp_zero h
  rw [he] at h1 h2 ⊢
  exact ⟨h2, h1, fun i hi => exact_own hv (List.getElem_mem hi), fun i hi => (out_ok hv).asc _ (List.getElem_mem hi), fun i hi => exact_comb hv (List.getElem_mem hi), fun i hi => exact_incl hv (List.getElem_mem hi), fun c => exact_choice hv⟩

set_option maxRecDepth 100000 in
set_option maxHeartbeats 6400000 in
theorem exact_law (m : MX) (v : Value) (C : List Nat) (u : Value) (B : Nat → Prop) (w : World) (hp : Pow w) (h : MAt (fun b => b < w.heap.size) w v m) (hm : m.wf) (hf : m.fit) (hC : EU8.Row B w C u) (_ : C.length ≤ 9223372036854775807) (h255 : ∀ n ∈ C, n ≤ 255) : Calls Tryz.prog 5 #[v, u] w (LawPost w) := by
  have AW0 : Hid (∀ W', Below w.heap.size w W' → Calls Tryz.prog 9 #[] W' (LawPost W')) := fun W' hb => awake_any W' (hp.below hb)
  have SM0 : Hid (∀ W', Below w.heap.size w W' → Calls Tryz.prog 8 #[v] W' fun e w' => e = .returned (.bool (smallF m)) ∧ Below W'.heap.size W' w') := fun W' hb => small_any m v _ hf W' (h.below hb)
  have EX0 : Hid (smallF m = true → ∀ W', Below w.heap.size w W' → Calls Tryz.prog 10 #[v] W' fun e w' => ∃ ro rc, e = .returned (.tuple #[.slice ro (expL m).length rc, .int .i64 ((expE m : Nat) : Int)]) ∧ EVars.Row (fun _ => True) w' (expL m) (.slice ro (expL m).length rc) ∧ Below W'.heap.size W' w') := fun hs W' hb => (mexpand_any m hm v W' ((h.below hb).low) (fun L hL => Nat.le_trans ((small_incl hs).1 L hL) (by decide))).mono fun e w' h => exp_open h
  have EXC0 : Hid (∀ (V : List VR) (a : Value) (W' : World), wfVars V → EVar.Row (fun _ => True) W' V a → Below w.heap.size w W' → Calls Tryz.prog 20 #[a, v] W' fun e w' => e = .returned (.bool (exclF m V)) ∧ Below W'.heap.size W' w') := fun V a W' hV hr hb => excluded_any V m a v _ _ hV hm W' hr (h.below hb)
  have CMB0 : Hid (∀ (V : List VR) (a : Value) (W' : World), wfVars V → EVar.Row (fun _ => True) W' V a → Below w.heap.size w W' → Calls Tryz.prog 21 #[a, v] W' fun e w' => e = .returned (.bool (combinF m V)) ∧ Below W'.heap.size W' w') := fun V a W' hV hr hb => combination_any V m a v _ _ hV hm W' hr (h.below hb)
  have HM := Lib.hid hm
  have HNL := Lib.hid (fun h => exp_nil (m := m) h)
  have HXO : Hid (expE m = 0 → ExO m (expL m)) := fun h => exO_of hm h
  have hla := hm.la
  have hli := hm.li
  have H80 : Hid (smallF m = true → m.axes.length ≤ 2000) := fun h => (small_incl h).2.2.2
  obtain ⟨ao, ac, io, ic, eo, ec, rfl, hA, hI, hE⟩ := h
  obtain ⟨uo, uc, rfl⟩ := hC.form
  have HA := Lib.hid hA
  have HI := Lib.hid hI
  have HCU := Lib.hid hC
  have H255 := Lib.hid h255
  generalize expL m = O at *
  generalize expE m = em at *
  generalize smallF m = sm at *
  clear hp hm hf hA hI hE hC h255
  obtain ⟨w1, hw1⟩ : ∃ w1, w.alloc (.cells #[.slice ao m.axes.length ac, .slice io m.incl.length ic, .slice eo m.excl.length ec] 25 (0, 0)) = w1 := ⟨_, rfl⟩
  have hk1 : w1.heap[w.heap.size]? = some (.cells #[.slice ao m.axes.length ac, .slice io m.incl.length ic, .slice eo m.excl.length ec] 25 (0, 0)) := by rw [← hw1]; exact hp_new rfl
  have HZ1 : Hid (w.heap.size < w1.heap.size) := (Array.getElem?_eq_some_iff.1 hk1).1
  have HB1 : Hid (Below w.heap.size w w1) := by unfold Hid; rw [← hw1]; exact (Below.refl _ w).alloc (Nat.le_refl _) _
  have HF : Hid (∀ W' : World, Below w1.heap.size w1 W' → W'.cell? ⟨w.heap.size, 0, none⟩ = some (.slice ao m.axes.length ac) ∧ W'.cell? ⟨w.heap.size, 1, none⟩ = some (.slice io m.incl.length ic) ∧ W'.cell? ⟨w.heap.size, 2, none⟩ = some (.slice eo m.excl.length ec)) := fun W' hb => by
    have q := (hb.block _ (Array.getElem?_eq_some_iff.1 hk1).1).trans hk1
    exact ⟨cell_of_blk q 0, cell_of_blk q 1, cell_of_blk q 2⟩
  have HX : Hid (∀ W' : World, Below w1.heap.size w1 W' → Below w.heap.size w W') := fun W' hb => HB1.out.trans (hb.mono HB1.out.size)
  obtain ⟨c0, c1, c2⟩ := HF.out w1 (Below.refl _ _)
  have HW1 := Lib.hid hw1
  clear hk1 hw1
  go_enter Tryz.func5, Tryz.ntmps5
  go_upto_region 1 with fail
  rw [HW1.out]
  clear HW1
  go_wp2_with fail
  refine (SM0.out w1 HB1.out).mono ?_
  rintro e w2 ⟨rfl, hb⟩
  have H2 := Lib.hid hb
  clear hb c0 c1 c2 SM0
  cases sm
  · clear EX0 EXC0 CMB0 HXO HNL H80
    as_aux_lemma =>
    go_wp2_with fail
    refine (AW0.out w2 (HX.out w2 H2.out)).mono ?_
    rintro e w3 ⟨rfl, hb⟩
    have H3 := Lib.hid (HB1.out.trans ((H2.out.trans (hb.mono H2.out.size)).mono HB1.out.size))
    clear hb
    go_wp2_with fail
    go_ret
    exact ⟨rfl, H3.out⟩
  obtain ⟨c0, c1, c2⟩ := HF.out w2 H2.out
  have H8 := Lib.hid (H80.out rfl)
  clear H80
  as_aux_lemma =>
  go_wp2_with fail
  refine (EX0.out (by trivial) w2 (HX.out w2 H2.out)).mono ?_
  rintro e w3 ⟨ro, rc, rfl, hr, hb⟩
  have HR3 := Lib.hid hr
  have H3 := Lib.hid (H2.out.trans (hb.mono H2.out.size))
  have HX3 : Hid (∀ W' : World, Below w3.heap.size w3 W' → Below w.heap.size w W') := fun W' h => HX.out W' (H3.out.trans (h.mono H3.out.size))
  have HF3 : Hid (∀ W' : World, Below w3.heap.size w3 W' → W'.cell? ⟨w.heap.size, 0, none⟩ = some (.slice ao m.axes.length ac) ∧ W'.cell? ⟨w.heap.size, 1, none⟩ = some (.slice io m.incl.length ic) ∧ W'.cell? ⟨w.heap.size, 2, none⟩ = some (.slice eo m.excl.length ec)) := fun W' h => HF.out W' (H3.out.trans (h.mono H3.out.size))
  have HSZ : Hid (∀ W' : World, Below w3.heap.size w3 W' → w.heap.size < W'.heap.size) := fun W' h => Nat.lt_of_lt_of_le HZ1.out (Nat.le_trans H3.out.size h.size)
  clear hr hb c0 c1 c2 EX0 HF HX H2 H3 HB1 HZ1
  by_cases hem : em = 0
  rotate_left
  · have hn := HNL.out hem
    have t2 : ((em : Int) != 0) = true := by simp; omega
    have t3 : ((O.length : Int) == 0) = true := by rw [hn]; rfl
    clear EXC0 CMB0 HXO HNL HR3 hem
    generalize O.length = n at *
    as_aux_lemma =>
    go_wp2_with fail
    refine (AW0.out w3 (HX3.out w3 (Below.refl _ _))).mono ?_
    rintro e w4 ⟨rfl, hb⟩
    have H4 := Lib.hid (HX3.out w4 hb)
    clear hb
    go_wp2_with fail
    go_ret
    exact ⟨rfl, H4.out⟩
  subst hem
  have HO := Lib.hid (HXO.out rfl)
  have h256 := HO.out.le
  have HWI : Hid (∀ (i : Nat) (hi : i < O.length) (a : Value) (W' : World), EVar.Row (fun _ => True) W' O[i] a → Below w3.heap.size w3 W' → Calls Tryz.prog 19 #[a, .slice ro O.length rc] W' fun e w' => e = .returned (.int .i64 1) ∧ Below W'.heap.size W' w') := fun i hi a W' hr hb =>
    (within_any O[i] O a _ _ _ (HO.out.wf _ (List.getElem_mem hi)) HO.out.wf (by omega) W' hr (HR3.out.below hb)).mono fun e w' q => ⟨by rw [q.1, HO.out.own i hi]; rfl, q.2⟩
  have HWN : Hid (∀ (i : Nat) (hi : i < O.length) (a : Value) (W' : World), EVar.Row (fun _ => True) W' O[i] a → Below w3.heap.size w3 W' → Calls Tryz.prog 19 #[a, .slice io m.incl.length ic] W' fun e w' => e = .returned (.int .i64 (withF O[i] m.incl : Nat)) ∧ Below W'.heap.size W' w') := fun i hi a W' hr hb =>
    within_any O[i] m.incl a _ _ _ (HO.out.wf _ (List.getElem_mem hi)) HM.out.inc hli W' hr (HI.out.below (HX3.out W' hb))
  have HWC : Hid (∀ (i : Nat) (hi : i < m.incl.length) (a : Value) (W' : World), EVar.Row (fun b => b < w.heap.size) W' m.incl[i] a → Below w3.heap.size w3 W' → Calls Tryz.prog 19 #[a, .slice ro O.length rc] W' fun e w' => e = .returned (.int .i64 1) ∧ Below W'.heap.size W' w') := fun i hi a W' hr hb =>
    (within_any m.incl[i] O a _ _ _ (HM.out.inc _ (List.getElem_mem hi)) HO.out.wf (by omega) W' hr (HR3.out.below hb)).mono fun e w' q => ⟨by rw [q.1, HO.out.inc i hi]; rfl, q.2⟩
  have HWX : Hid (∀ (c : List VR) (a : Value) (W' : World), IsC m.axes c → m.axes ≠ [] → exclF m c = false → EVar.Row (fun _ => True) W' c a → Below w3.heap.size w3 W' → Calls Tryz.prog 19 #[a, .slice ro O.length rc] W' fun e w' => e = .returned (.int .i64 1) ∧ Below W'.heap.size W' w') := fun c a W' hc hne he hr hb =>
    (within_any c O a _ _ _ (isC_vars HM.out hc) HO.out.wf (by omega) W' hr (HR3.out.below hb)).mono fun e w' q => ⟨by rw [q.1, HO.out.cho c hc hne he]; rfl, q.2⟩
  clear HXO HNL
  as_aux_lemma =>
  go_wp2_with fail
  go_loopg [7] O.length (LpRel O.length w3)
  case atStart => exact ⟨0, rfl, Nat.zero_le _, rfl, Below.refl _ _⟩
  case round =>
    obtain ⟨wz, hwz⟩ : ∃ wz : World, wz = wr := ⟨_, rfl⟩
    subst hwz
    obtain ⟨i, rfl, hi, rfl, hbel⟩ := hrel
    have HB := Lib.hid hbel
    clear hbel
    by_cases hlt : i < O.length
    · have hii : (i : Int) < (O.length : Int) := by omega
      obtain ⟨bl, off, a, c, hro, hbl, y0, hr⟩ := evars_at (HR3.out.below HB.out) hlt
      subst hro
      have HR := Lib.hid hr
      have hwi := HO.out.wf _ (List.getElem_mem hlt)
      have hnl := hwi.1
      have HSX : Hid (∀ W' : World, Below wz.heap.size wz W' → W'.cell? ⟨w.heap.size, 0, none⟩ = some (.slice ao m.axes.length ac) ∧ W'.cell? ⟨w.heap.size, 1, none⟩ = some (.slice io m.incl.length ic) ∧ W'.cell? ⟨w.heap.size, 2, none⟩ = some (.slice eo m.excl.length ec) ∧ W'.cell? ⟨bl, off + i, none⟩ = some (.slice a O[i].length c) ∧ Below wz.heap.size wz W') := fun W' hb => by
        obtain ⟨q0, q1, q2⟩ := HF3.out W' (HB.out.trans (hb.mono HB.out.size))
        exact ⟨q0, q1, q2, (hb.cell (p := ⟨bl, off + i, none⟩) hbl).trans y0, hb⟩
      have W1 : Hid (∀ W' : World, W'.cell? ⟨w.heap.size, 0, none⟩ = some (.slice ao m.axes.length ac) ∧ W'.cell? ⟨w.heap.size, 1, none⟩ = some (.slice io m.incl.length ic) ∧ W'.cell? ⟨w.heap.size, 2, none⟩ = some (.slice eo m.excl.length ec) ∧ W'.cell? ⟨bl, off + i, none⟩ = some (.slice a O[i].length c) ∧ Below wz.heap.size wz W' → Calls Tryz.prog 19 #[.slice a O[i].length c, .slice (some ⟨bl, off, none⟩) O.length rc] W' fun e w' => e = .returned (.int .i64 1) ∧ w'.cell? ⟨w.heap.size, 0, none⟩ = some (.slice ao m.axes.length ac) ∧ w'.cell? ⟨w.heap.size, 1, none⟩ = some (.slice io m.incl.length ic) ∧ w'.cell? ⟨w.heap.size, 2, none⟩ = some (.slice eo m.excl.length ec) ∧ w'.cell? ⟨bl, off + i, none⟩ = some (.slice a O[i].length c) ∧ Below wz.heap.size wz w') := fun W' hS => (HWI.out i hlt _ W' (HR.out.below hS.2.2.2.2) (HB.out.trans (hS.2.2.2.2.mono HB.out.size))).mono fun e w' q => ⟨q.1, HSX.out w' (hS.2.2.2.2.trans (q.2.mono hS.2.2.2.2.size))⟩
      have W2 : Hid (∀ W' : World, W'.cell? ⟨w.heap.size, 0, none⟩ = some (.slice ao m.axes.length ac) ∧ W'.cell? ⟨w.heap.size, 1, none⟩ = some (.slice io m.incl.length ic) ∧ W'.cell? ⟨w.heap.size, 2, none⟩ = some (.slice eo m.excl.length ec) ∧ W'.cell? ⟨bl, off + i, none⟩ = some (.slice a O[i].length c) ∧ Below wz.heap.size wz W' → Calls Tryz.prog 19 #[.slice a O[i].length c, .slice io m.incl.length ic] W' fun e w' => e = .returned (.int .i64 (withF O[i] m.incl : Nat)) ∧ w'.cell? ⟨w.heap.size, 0, none⟩ = some (.slice ao m.axes.length ac) ∧ w'.cell? ⟨w.heap.size, 1, none⟩ = some (.slice io m.incl.length ic) ∧ w'.cell? ⟨w.heap.size, 2, none⟩ = some (.slice eo m.excl.length ec) ∧ w'.cell? ⟨bl, off + i, none⟩ = some (.slice a O[i].length c) ∧ Below wz.heap.size wz w') := fun W' hS => (HWN.out i hlt _ W' (HR.out.below hS.2.2.2.2) (HB.out.trans (hS.2.2.2.2.mono HB.out.size))).mono fun e w' q => ⟨q.1, HSX.out w' (hS.2.2.2.2.trans (q.2.mono hS.2.2.2.2.size))⟩
      have W3 : Hid (withF O[i] m.incl = 0 → ∀ W' : World, W'.cell? ⟨w.heap.size, 0, none⟩ = some (.slice ao m.axes.length ac) ∧ W'.cell? ⟨w.heap.size, 1, none⟩ = some (.slice io m.incl.length ic) ∧ W'.cell? ⟨w.heap.size, 2, none⟩ = some (.slice eo m.excl.length ec) ∧ W'.cell? ⟨bl, off + i, none⟩ = some (.slice a O[i].length c) ∧ Below wz.heap.size wz W' → Calls Tryz.prog 20 #[.slice a O[i].length c, .agg #[.slice ao m.axes.length ac, .slice io m.incl.length ic, .slice eo m.excl.length ec]] W' fun e w' => e = .returned (.bool false) ∧ w'.cell? ⟨w.heap.size, 0, none⟩ = some (.slice ao m.axes.length ac) ∧ w'.cell? ⟨w.heap.size, 1, none⟩ = some (.slice io m.incl.length ic) ∧ w'.cell? ⟨w.heap.size, 2, none⟩ = some (.slice eo m.excl.length ec) ∧ w'.cell? ⟨bl, off + i, none⟩ = some (.slice a O[i].length c) ∧ Below wz.heap.size wz w') := fun hz W' hS => (EXC0.out O[i] _ W' hwi (HR.out.below hS.2.2.2.2) (HX3.out W' (HB.out.trans (hS.2.2.2.2.mono HB.out.size)))).mono fun e w' q => ⟨by rw [q.1, (HO.out.com i hlt hz).1], HSX.out w' (hS.2.2.2.2.trans (q.2.mono hS.2.2.2.2.size))⟩
      have W4 : Hid (withF O[i] m.incl = 0 → ∀ W' : World, W'.cell? ⟨w.heap.size, 0, none⟩ = some (.slice ao m.axes.length ac) ∧ W'.cell? ⟨w.heap.size, 1, none⟩ = some (.slice io m.incl.length ic) ∧ W'.cell? ⟨w.heap.size, 2, none⟩ = some (.slice eo m.excl.length ec) ∧ W'.cell? ⟨bl, off + i, none⟩ = some (.slice a O[i].length c) ∧ Below wz.heap.size wz W' → Calls Tryz.prog 21 #[.slice a O[i].length c, .agg #[.slice ao m.axes.length ac, .slice io m.incl.length ic, .slice eo m.excl.length ec]] W' fun e w' => e = .returned (.bool true) ∧ w'.cell? ⟨w.heap.size, 0, none⟩ = some (.slice ao m.axes.length ac) ∧ w'.cell? ⟨w.heap.size, 1, none⟩ = some (.slice io m.incl.length ic) ∧ w'.cell? ⟨w.heap.size, 2, none⟩ = some (.slice eo m.excl.length ec) ∧ w'.cell? ⟨bl, off + i, none⟩ = some (.slice a O[i].length c) ∧ Below wz.heap.size wz w') := fun hz W' hS => (CMB0.out O[i] _ W' hwi (HR.out.below hS.2.2.2.2) (HX3.out W' (HB.out.trans (hS.2.2.2.2.mono HB.out.size)))).mono fun e w' q => ⟨by rw [q.1, (HO.out.com i hlt hz).2], HSX.out w' (hS.2.2.2.2.trans (q.2.mono hS.2.2.2.2.size))⟩
      have HD := Lib.hid (HSX.out _ (Below.refl _ wz).drew)
      have HAS := Lib.hid (HO.out.asc i hlt)
      have HY : Hid (∀ W', Below wz.heap.size wz W' → W'.cell? ⟨bl, off + i, none⟩ = some (.slice a O[i].length c)) := fun W' hb => (hb.cell (p := ⟨bl, off + i, none⟩) hbl).trans y0
      have HWF := Lib.hid hwi.2
      clear hr y0 hwi
      generalize O[i] = V at *
      generalize withF V m.incl = q at *
      as_aux_lemma =>
      go_upto_region 9 with fail
      go_cut [69] (fun s69 wx => s69 = .bool false ∧ Below wz.heap.size wz wx)
      case first =>
        clear AW0 EXC0 CMB0 HWI HWN HWC HWX HM HA HI HCU H255 HO HAS HWF HR HR3 HY
        by_cases hq : q = 0
        · have tq : ((q : Int) == 0) = true := by rw [hq]; rfl
          have W3 := Lib.hid (W3.out hq)
          have W4 := Lib.hid (W4.out hq)
          clear hq
          as_aux_lemma =>
          refine wp_region_Z (S := fun W' : World => W'.cell? ⟨w.heap.size, 0, none⟩ = some (.slice ao m.axes.length ac) ∧ W'.cell? ⟨w.heap.size, 1, none⟩ = some (.slice io m.incl.length ic) ∧ W'.cell? ⟨w.heap.size, 2, none⟩ = some (.slice eo m.excl.length ec) ∧ W'.cell? ⟨bl, off + i, none⟩ = some (.slice a V.length c) ∧ Below wz.heap.size wz W') 34 (by kernel_rfl) HD.out (fun hHeld => ?_)
          refine wpAnyZ_takeL (i := 0) (v := ?_) rfl (by kernel_rfl) (by kernel_rfl) (by kernel_rfl) (by kernel_rfl) (fun _ _ _ h => h) (Or.inl ⟨by rfl, ?_⟩) (by assumption) ?_
          rotate_left
          · (intro w hSw; (try dsimp only at hSw); go_simp; try with_reducible rfl)
          try simp only [Act.put, List.setIfInBounds_toArray, List.set_cons_zero, List.set_cons_succ]
          refine wpAnyZ_takeL (i := 1) (v := ?_) rfl (by kernel_rfl) (by kernel_rfl) (by kernel_rfl) (by kernel_rfl) (fun _ _ _ h => h) (Or.inl ⟨by rfl, ?_⟩) (by assumption) ?_
          rotate_left
          · (intro w hSw; (try dsimp only at hSw); go_simp; try with_reducible rfl)
          try simp only [Act.put, List.setIfInBounds_toArray, List.set_cons_zero, List.set_cons_succ]
          refine wpAnyZ_takeL (i := 2) (v := ?_) rfl (by kernel_rfl) (by kernel_rfl) (by kernel_rfl) (by kernel_rfl) (fun _ _ _ h => h) (Or.inl ⟨by rfl, ?_⟩) (by assumption) ?_
          rotate_left
          · (intro w hSw; (try dsimp only at hSw); go_simp; try with_reducible rfl)
          try simp only [Act.put, List.setIfInBounds_toArray, List.set_cons_zero, List.set_cons_succ]
          refine wpAnyZ_takeL (i := 3) (v := ?_) rfl (by kernel_rfl) (by kernel_rfl) (by kernel_rfl) (by kernel_rfl) (fun _ _ _ h => h) (Or.inl ⟨by rfl, ?_⟩) (by assumption) ?_
          rotate_left
          · (intro w hSw; (try dsimp only at hSw); go_simp; try with_reducible rfl)
          try simp only [Act.put, List.setIfInBounds_toArray, List.set_cons_zero, List.set_cons_succ]
          refine wpAnyZ_takeL (i := 4) (v := ?_) rfl (by kernel_rfl) (by kernel_rfl) (by kernel_rfl) (by kernel_rfl) (fun _ _ _ h => h) (Or.inl ⟨by rfl, ?_⟩) (by assumption) ?_
          rotate_left
          · (intro w hSw; (try dsimp only at hSw); go_simp; try with_reducible rfl)
          try simp only [Act.put, List.setIfInBounds_toArray, List.set_cons_zero, List.set_cons_succ]
          refine wpAnyZ_oneL (i := 5) (by kernel_rfl) rfl (fun K hK => ?_)
          go_simp
          go_at_call 19
          refine (W1.out _ hHeld).mono ?_
          rintro e wA0 ⟨rfl, hSA0⟩
          refine hK.out _ _ (fun _ => hSA0) (fun hHeld => ?_)
          replace hHeld := hHeld (by decide)
          clear hK K
          try simp only [Act.put, List.setIfInBounds_toArray, List.set_cons_zero, List.set_cons_succ]
          refine wpAnyZ_takeL (i := 6) (v := ?_) rfl (by kernel_rfl) (by kernel_rfl) (by kernel_rfl) (by kernel_rfl) (fun _ _ _ h => h) (Or.inl ⟨by rfl, ?_⟩) (by assumption) ?_
          rotate_left
          · (intro w hSw; (try dsimp only at hSw); go_simp; try with_reducible rfl)
          try simp only [Act.put, List.setIfInBounds_toArray, List.set_cons_zero, List.set_cons_succ]
          refine wpAnyZ_takeL (i := 7) (v := ?_) rfl (by kernel_rfl) (by kernel_rfl) (by kernel_rfl) (by kernel_rfl) (fun _ _ _ h => h) (Or.inl ⟨by rfl, ?_⟩) (by assumption) ?_
          rotate_left
          · (intro w hSw; (try dsimp only at hSw); go_simp; try with_reducible rfl)
          try simp only [Act.put, List.setIfInBounds_toArray, List.set_cons_zero, List.set_cons_succ]
          refine wpAnyZ_takeL (i := 8) (v := ?_) rfl (by kernel_rfl) (by kernel_rfl) (by kernel_rfl) (by kernel_rfl) (fun _ _ _ h => h) (Or.inl ⟨by rfl, ?_⟩) (by assumption) ?_
          rotate_left
          · (intro w hSw; (try dsimp only at hSw); go_simp; try with_reducible rfl)
          try simp only [Act.put, List.setIfInBounds_toArray, List.set_cons_zero, List.set_cons_succ]
          refine wpAnyZ_takeL (i := 9) (v := ?_) rfl (by kernel_rfl) (by kernel_rfl) (by kernel_rfl) (by kernel_rfl) (fun _ _ _ h => h) (Or.inl ⟨by rfl, ?_⟩) (by assumption) ?_
          rotate_left
          · (intro w hSw; (try dsimp only at hSw); go_simp; try with_reducible rfl)
          try simp only [Act.put, List.setIfInBounds_toArray, List.set_cons_zero, List.set_cons_succ]
          refine wpAnyZ_takeL (i := 10) (v := ?_) rfl (by kernel_rfl) (by kernel_rfl) (by kernel_rfl) (by kernel_rfl) (fun _ _ _ h => h) (Or.inl ⟨by rfl, ?_⟩) (by assumption) ?_
          rotate_left
          · (intro w hSw; (try dsimp only at hSw); go_simp; try with_reducible rfl)
          try simp only [Act.put, List.setIfInBounds_toArray, List.set_cons_zero, List.set_cons_succ]
          refine wpAnyZ_takeL (i := 11) (v := ?_) rfl (by kernel_rfl) (by kernel_rfl) (by kernel_rfl) (by kernel_rfl) (fun _ _ _ h => h) (Or.inl ⟨by rfl, ?_⟩) (by assumption) ?_
          rotate_left
          · (intro w hSw; (try dsimp only at hSw); go_simp; try with_reducible rfl)
          try simp only [Act.put, List.setIfInBounds_toArray, List.set_cons_zero, List.set_cons_succ]
          refine wpAnyZ_takeL (i := 12) (v := ?_) rfl (by kernel_rfl) (by kernel_rfl) (by kernel_rfl) (by kernel_rfl) (fun _ _ _ h => h) (Or.inl ⟨by rfl, ?_⟩) (by assumption) ?_
          rotate_left
          · (intro w hSw; (try dsimp only at hSw); go_simp; try with_reducible rfl)
          try simp only [Act.put, List.setIfInBounds_toArray, List.set_cons_zero, List.set_cons_succ]
          refine wpAnyZ_takeL (i := 13) (v := ?_) rfl (by kernel_rfl) (by kernel_rfl) (by kernel_rfl) (by kernel_rfl) (fun _ _ _ h => h) (Or.inl ⟨by rfl, ?_⟩) (by assumption) ?_
          rotate_left
          · (intro w hSw; (try dsimp only at hSw); go_simp; try with_reducible rfl)
          try simp only [Act.put, List.setIfInBounds_toArray, List.set_cons_zero, List.set_cons_succ]
          refine wpAnyZ_oneL (i := 14) (by kernel_rfl) rfl (fun K hK => ?_)
          go_simp
          go_at_call 19
          refine (W2.out _ hHeld).mono ?_
          rintro e wA1 ⟨rfl, hSA1⟩
          refine hK.out _ _ (fun _ => hSA1) (fun hHeld => ?_)
          replace hHeld := hHeld (by decide)
          clear hK K
          try simp only [Act.put, List.setIfInBounds_toArray, List.set_cons_zero, List.set_cons_succ]
          refine wpAnyZ_takeL (i := 15) (v := ?_) rfl (by kernel_rfl) (by kernel_rfl) (by kernel_rfl) (by kernel_rfl) (fun _ _ _ h => h) (Or.inl ⟨by rfl, ?_⟩) (by assumption) ?_
          rotate_left
          · (intro w hSw; (try dsimp only at hSw); go_simp; try with_reducible rfl)
          try simp only [Act.put, List.setIfInBounds_toArray, List.set_cons_zero, List.set_cons_succ]
          refine wpAnyZ_takeL (i := 16) (v := ?_) rfl (by kernel_rfl) (by kernel_rfl) (by kernel_rfl) (by kernel_rfl) (fun _ _ _ h => h) (Or.inl ⟨by rfl, ?_⟩) (by assumption) ?_
          rotate_left
          · (intro w hSw; (try dsimp only at hSw); go_simp; try with_reducible rfl)
          try simp only [Act.put, List.setIfInBounds_toArray, List.set_cons_zero, List.set_cons_succ]
          refine wpAnyZ_takeL (i := 17) (v := ?_) rfl (by kernel_rfl) (by kernel_rfl) (by kernel_rfl) (by kernel_rfl) (fun _ _ _ h => h) (Or.inl ⟨by rfl, ?_⟩) (by assumption) ?_
          rotate_left
          · (intro w hSw; (try dsimp only at hSw); go_simp; try with_reducible rfl)
          try simp only [Act.put, List.setIfInBounds_toArray, List.set_cons_zero, List.set_cons_succ]
          refine wpAnyZ_takeL (i := 18) (v := ?_) rfl (by kernel_rfl) (by kernel_rfl) (by kernel_rfl) (by kernel_rfl) (fun _ _ _ h => h) (Or.inl ⟨by rfl, ?_⟩) (by assumption) ?_
          rotate_left
          · (intro w hSw; (try dsimp only at hSw); go_simp; try with_reducible rfl)
          try simp only [Act.put, List.setIfInBounds_toArray, List.set_cons_zero, List.set_cons_succ]
          refine wpAnyZ_takeL (i := 19) (v := ?_) rfl (by kernel_rfl) (by kernel_rfl) (by kernel_rfl) (by kernel_rfl) (fun _ _ _ h => h) (Or.inl ⟨by rfl, ?_⟩) (by assumption) ?_
          rotate_left
          · (intro w hSw; (try dsimp only at hSw); go_simp; try with_reducible rfl)
          try simp only [Act.put, List.setIfInBounds_toArray, List.set_cons_zero, List.set_cons_succ]
          refine wpAnyZ_takeL (i := 20) (v := ?_) rfl (by kernel_rfl) (by kernel_rfl) (by kernel_rfl) (by kernel_rfl) (fun _ _ _ h => h) (Or.inl ⟨by rfl, ?_⟩) (by assumption) ?_
          rotate_left
          · (intro w hSw; (try dsimp only at hSw); go_simp; try with_reducible rfl)
          try simp only [Act.put, List.setIfInBounds_toArray, List.set_cons_zero, List.set_cons_succ]
          refine wpAnyZ_takeL (i := 21) (v := ?_) rfl (by kernel_rfl) (by kernel_rfl) (by kernel_rfl) (by kernel_rfl) (fun _ _ _ h => h) (Or.inl ⟨by rfl, ?_⟩) (by assumption) ?_
          rotate_left
          · (intro w hSw; (try dsimp only at hSw); go_simp; try with_reducible rfl)
          try simp only [Act.put, List.setIfInBounds_toArray, List.set_cons_zero, List.set_cons_succ]
          refine wpAnyZ_oneL (i := 22) (by kernel_rfl) rfl (fun K hK => ?_)
          go_simp
          go_at_call 20
          refine (W3.out _ hHeld).mono ?_
          rintro e wA2 ⟨rfl, hSA2⟩
          refine hK.out _ _ (fun _ => hSA2) (fun hHeld => ?_)
          replace hHeld := hHeld (by decide)
          clear hK K
          try simp only [Act.put, List.setIfInBounds_toArray, List.set_cons_zero, List.set_cons_succ]
          refine wpAnyZ_takeL (i := 23) (v := ?_) rfl (by kernel_rfl) (by kernel_rfl) (by kernel_rfl) (by kernel_rfl) (fun _ _ _ h => h) (Or.inl ⟨by rfl, ?_⟩) (by assumption) ?_
          rotate_left
          · (intro w hSw; (try dsimp only at hSw); go_simp; try with_reducible rfl)
          try simp only [Act.put, List.setIfInBounds_toArray, List.set_cons_zero, List.set_cons_succ]
          refine wpAnyZ_takeL (i := 24) (v := ?_) rfl (by kernel_rfl) (by kernel_rfl) (by kernel_rfl) (by kernel_rfl) (fun _ _ _ h => h) (Or.inl ⟨by rfl, ?_⟩) (by assumption) ?_
          rotate_left
          · (intro w hSw; (try dsimp only at hSw); go_simp; try with_reducible rfl)
          try simp only [Act.put, List.setIfInBounds_toArray, List.set_cons_zero, List.set_cons_succ]
          refine wpAnyZ_takeL (i := 25) (v := ?_) rfl (by kernel_rfl) (by kernel_rfl) (by kernel_rfl) (by kernel_rfl) (fun _ _ _ h => h) (Or.inl ⟨by rfl, ?_⟩) (by assumption) ?_
          rotate_left
          · (intro w hSw; (try dsimp only at hSw); go_simp; try with_reducible rfl)
          try simp only [Act.put, List.setIfInBounds_toArray, List.set_cons_zero, List.set_cons_succ]
          refine wpAnyZ_takeL (i := 26) (v := ?_) rfl (by kernel_rfl) (by kernel_rfl) (by kernel_rfl) (by kernel_rfl) (fun _ _ _ h => h) (Or.inl ⟨by rfl, ?_⟩) (by assumption) ?_
          rotate_left
          · (intro w hSw; (try dsimp only at hSw); go_simp; try with_reducible rfl)
          try simp only [Act.put, List.setIfInBounds_toArray, List.set_cons_zero, List.set_cons_succ]
          refine wpAnyZ_takeL (i := 27) (v := ?_) rfl (by kernel_rfl) (by kernel_rfl) (by kernel_rfl) (by kernel_rfl) (fun _ _ _ h => h) (Or.inl ⟨by rfl, ?_⟩) (by assumption) ?_
          rotate_left
          · (intro w hSw; (try dsimp only at hSw); go_simp; try with_reducible rfl)
          try simp only [Act.put, List.setIfInBounds_toArray, List.set_cons_zero, List.set_cons_succ]
          refine wpAnyZ_takeL (i := 28) (v := ?_) rfl (by kernel_rfl) (by kernel_rfl) (by kernel_rfl) (by kernel_rfl) (fun _ _ _ h => h) (Or.inl ⟨by rfl, ?_⟩) (by assumption) ?_
          rotate_left
          · (intro w hSw; (try dsimp only at hSw); go_simp; try with_reducible rfl)
          try simp only [Act.put, List.setIfInBounds_toArray, List.set_cons_zero, List.set_cons_succ]
          refine wpAnyZ_oneL (i := 29) (by kernel_rfl) rfl (fun K hK => ?_)
          go_simp
          go_at_call 21
          refine (W4.out _ hHeld).mono ?_
          rintro e wA3 ⟨rfl, hSA3⟩
          refine hK.out _ _ (fun _ => hSA3) (fun hHeld => ?_)
          replace hHeld := hHeld (by decide)
          clear hK K
          try simp only [Act.put, List.setIfInBounds_toArray, List.set_cons_zero, List.set_cons_succ]
          refine wpAnyZ_takeL (i := 30) (v := ?_) rfl (by kernel_rfl) (by kernel_rfl) (by kernel_rfl) (by kernel_rfl) (fun _ _ _ h => h) (Or.inl ⟨by rfl, ?_⟩) (by assumption) ?_
          rotate_left
          · (intro w hSw; (try dsimp only at hSw); go_simp; try with_reducible rfl)
          try simp only [Act.put, List.setIfInBounds_toArray, List.set_cons_zero, List.set_cons_succ]
          refine wpAnyZ_takeL (i := 31) (v := ?_) rfl (by kernel_rfl) (by kernel_rfl) (by kernel_rfl) (by kernel_rfl) (fun _ _ _ h => h) (Or.inl ⟨by rfl, ?_⟩) (by assumption) ?_
          rotate_left
          · (intro w hSw; (try dsimp only at hSw); go_simp; try with_reducible rfl)
          try simp only [Act.put, List.setIfInBounds_toArray, List.set_cons_zero, List.set_cons_succ]
          refine wpAnyZ_takeL (i := 32) (v := ?_) rfl (by kernel_rfl) (by kernel_rfl) (by kernel_rfl) (by kernel_rfl) (fun _ _ _ h => h) (Or.inl ⟨by rfl, ?_⟩) (by assumption) ?_
          rotate_left
          · (intro w hSw; (try dsimp only at hSw); go_simp; try with_reducible rfl)
          try simp only [Act.put, List.setIfInBounds_toArray, List.set_cons_zero, List.set_cons_succ]
          refine wpAnyZ_oneL (i := 33) (by kernel_rfl) rfl (fun K hK => ?_)
          go_simp
          refine hK.out _ _ (fun _ => hSA3) (fun hHeld => ?_)
          replace hHeld := hHeld (by decide)
          clear hK K
          try simp only [Act.put, List.setIfInBounds_toArray, List.set_cons_zero, List.set_cons_succ]
          refine wpAnyZ_done (by kernel_rfl) ?_ _
          clear hHeld
          go_wp2_with fail
          go_meet
          case rel => exact ⟨rfl, hSA3.2.2.2.2⟩
        · have tq : ((q : Int) == 0) = false := beq_eq_false_iff_ne.2 (by omega)
          clear W3 W4 hq
          as_aux_lemma =>
          refine wp_region_Z (S := fun W' : World => W'.cell? ⟨w.heap.size, 0, none⟩ = some (.slice ao m.axes.length ac) ∧ W'.cell? ⟨w.heap.size, 1, none⟩ = some (.slice io m.incl.length ic) ∧ W'.cell? ⟨w.heap.size, 2, none⟩ = some (.slice eo m.excl.length ec) ∧ W'.cell? ⟨bl, off + i, none⟩ = some (.slice a V.length c) ∧ Below wz.heap.size wz W') 34 (by kernel_rfl) HD.out (fun hHeld => ?_)
          refine wpAnyZ_takeL (i := 0) (v := ?_) rfl (by kernel_rfl) (by kernel_rfl) (by kernel_rfl) (by kernel_rfl) (fun _ _ _ h => h) (Or.inl ⟨by rfl, ?_⟩) (by assumption) ?_
          rotate_left
          · (intro w hSw; (try dsimp only at hSw); go_simp; try with_reducible rfl)
          try simp only [Act.put, List.setIfInBounds_toArray, List.set_cons_zero, List.set_cons_succ]
          refine wpAnyZ_takeL (i := 1) (v := ?_) rfl (by kernel_rfl) (by kernel_rfl) (by kernel_rfl) (by kernel_rfl) (fun _ _ _ h => h) (Or.inl ⟨by rfl, ?_⟩) (by assumption) ?_
          rotate_left
          · (intro w hSw; (try dsimp only at hSw); go_simp; try with_reducible rfl)
          try simp only [Act.put, List.setIfInBounds_toArray, List.set_cons_zero, List.set_cons_succ]
          refine wpAnyZ_takeL (i := 2) (v := ?_) rfl (by kernel_rfl) (by kernel_rfl) (by kernel_rfl) (by kernel_rfl) (fun _ _ _ h => h) (Or.inl ⟨by rfl, ?_⟩) (by assumption) ?_
          rotate_left
          · (intro w hSw; (try dsimp only at hSw); go_simp; try with_reducible rfl)
          try simp only [Act.put, List.setIfInBounds_toArray, List.set_cons_zero, List.set_cons_succ]
          refine wpAnyZ_takeL (i := 3) (v := ?_) rfl (by kernel_rfl) (by kernel_rfl) (by kernel_rfl) (by kernel_rfl) (fun _ _ _ h => h) (Or.inl ⟨by rfl, ?_⟩) (by assumption) ?_
          rotate_left
          · (intro w hSw; (try dsimp only at hSw); go_simp; try with_reducible rfl)
          try simp only [Act.put, List.setIfInBounds_toArray, List.set_cons_zero, List.set_cons_succ]
          refine wpAnyZ_takeL (i := 4) (v := ?_) rfl (by kernel_rfl) (by kernel_rfl) (by kernel_rfl) (by kernel_rfl) (fun _ _ _ h => h) (Or.inl ⟨by rfl, ?_⟩) (by assumption) ?_
          rotate_left
          · (intro w hSw; (try dsimp only at hSw); go_simp; try with_reducible rfl)
          try simp only [Act.put, List.setIfInBounds_toArray, List.set_cons_zero, List.set_cons_succ]
          refine wpAnyZ_oneL (i := 5) (by kernel_rfl) rfl (fun K hK => ?_)
          go_simp
          go_at_call 19
          refine (W1.out _ hHeld).mono ?_
          rintro e wA0 ⟨rfl, hSA0⟩
          refine hK.out _ _ (fun _ => hSA0) (fun hHeld => ?_)
          replace hHeld := hHeld (by decide)
          clear hK K
          try simp only [Act.put, List.setIfInBounds_toArray, List.set_cons_zero, List.set_cons_succ]
          refine wpAnyZ_takeL (i := 6) (v := ?_) rfl (by kernel_rfl) (by kernel_rfl) (by kernel_rfl) (by kernel_rfl) (fun _ _ _ h => h) (Or.inl ⟨by rfl, ?_⟩) (by assumption) ?_
          rotate_left
          · (intro w hSw; (try dsimp only at hSw); go_simp; try with_reducible rfl)
          try simp only [Act.put, List.setIfInBounds_toArray, List.set_cons_zero, List.set_cons_succ]
          refine wpAnyZ_takeL (i := 7) (v := ?_) rfl (by kernel_rfl) (by kernel_rfl) (by kernel_rfl) (by kernel_rfl) (fun _ _ _ h => h) (Or.inl ⟨by rfl, ?_⟩) (by assumption) ?_
          rotate_left
          · (intro w hSw; (try dsimp only at hSw); go_simp; try with_reducible rfl)
          try simp only [Act.put, List.setIfInBounds_toArray, List.set_cons_zero, List.set_cons_succ]
          refine wpAnyZ_takeL (i := 8) (v := ?_) rfl (by kernel_rfl) (by kernel_rfl) (by kernel_rfl) (by kernel_rfl) (fun _ _ _ h => h) (Or.inl ⟨by rfl, ?_⟩) (by assumption) ?_
          rotate_left
          · (intro w hSw; (try dsimp only at hSw); go_simp; try with_reducible rfl)
          try simp only [Act.put, List.setIfInBounds_toArray, List.set_cons_zero, List.set_cons_succ]
          refine wpAnyZ_takeL (i := 9) (v := ?_) rfl (by kernel_rfl) (by kernel_rfl) (by kernel_rfl) (by kernel_rfl) (fun _ _ _ h => h) (Or.inl ⟨by rfl, ?_⟩) (by assumption) ?_
          rotate_left
          · (intro w hSw; (try dsimp only at hSw); go_simp; try with_reducible rfl)
          try simp only [Act.put, List.setIfInBounds_toArray, List.set_cons_zero, List.set_cons_succ]
          refine wpAnyZ_takeL (i := 10) (v := ?_) rfl (by kernel_rfl) (by kernel_rfl) (by kernel_rfl) (by kernel_rfl) (fun _ _ _ h => h) (Or.inl ⟨by rfl, ?_⟩) (by assumption) ?_
          rotate_left
          · (intro w hSw; (try dsimp only at hSw); go_simp; try with_reducible rfl)
          try simp only [Act.put, List.setIfInBounds_toArray, List.set_cons_zero, List.set_cons_succ]
          refine wpAnyZ_takeL (i := 11) (v := ?_) rfl (by kernel_rfl) (by kernel_rfl) (by kernel_rfl) (by kernel_rfl) (fun _ _ _ h => h) (Or.inl ⟨by rfl, ?_⟩) (by assumption) ?_
          rotate_left
          · (intro w hSw; (try dsimp only at hSw); go_simp; try with_reducible rfl)
          try simp only [Act.put, List.setIfInBounds_toArray, List.set_cons_zero, List.set_cons_succ]
          refine wpAnyZ_takeL (i := 12) (v := ?_) rfl (by kernel_rfl) (by kernel_rfl) (by kernel_rfl) (by kernel_rfl) (fun _ _ _ h => h) (Or.inl ⟨by rfl, ?_⟩) (by assumption) ?_
          rotate_left
          · (intro w hSw; (try dsimp only at hSw); go_simp; try with_reducible rfl)
          try simp only [Act.put, List.setIfInBounds_toArray, List.set_cons_zero, List.set_cons_succ]
          refine wpAnyZ_takeL (i := 13) (v := ?_) rfl (by kernel_rfl) (by kernel_rfl) (by kernel_rfl) (by kernel_rfl) (fun _ _ _ h => h) (Or.inl ⟨by rfl, ?_⟩) (by assumption) ?_
          rotate_left
          · (intro w hSw; (try dsimp only at hSw); go_simp; try with_reducible rfl)
          try simp only [Act.put, List.setIfInBounds_toArray, List.set_cons_zero, List.set_cons_succ]
          refine wpAnyZ_oneL (i := 14) (by kernel_rfl) rfl (fun K hK => ?_)
          go_simp
          go_at_call 19
          refine (W2.out _ hHeld).mono ?_
          rintro e wA1 ⟨rfl, hSA1⟩
          refine hK.out _ _ (fun _ => hSA1) (fun hHeld => ?_)
          replace hHeld := hHeld (by decide)
          clear hK K
          try simp only [Act.put, List.setIfInBounds_toArray, List.set_cons_zero, List.set_cons_succ]
          refine wpAnyZ_takeL (i := 15) (v := ?_) rfl (by kernel_rfl) (by kernel_rfl) (by kernel_rfl) (by kernel_rfl) (fun _ _ _ h => h) (Or.inl ⟨by rfl, ?_⟩) (by assumption) ?_
          rotate_left
          · (intro w hSw; (try dsimp only at hSw); go_simp; try with_reducible rfl)
          try simp only [Act.put, List.setIfInBounds_toArray, List.set_cons_zero, List.set_cons_succ]
          refine wpAnyZ_takeL (i := 16) (v := ?_) rfl (by kernel_rfl) (by kernel_rfl) (by kernel_rfl) (by kernel_rfl) (fun _ _ _ h => h) (Or.inl ⟨by rfl, ?_⟩) (by assumption) ?_
          rotate_left
          · (intro w hSw; (try dsimp only at hSw); go_simp; try with_reducible rfl)
          try simp only [Act.put, List.setIfInBounds_toArray, List.set_cons_zero, List.set_cons_succ]
          refine wpAnyZ_takeL (i := 17) (v := undef) rfl (by kernel_rfl) (by kernel_rfl) (by kernel_rfl) (by kernel_rfl) (fun _ _ _ h => h) (Or.inr ⟨by rfl, rfl⟩) (by assumption) ?_
          try simp only [Act.put, List.setIfInBounds_toArray, List.set_cons_zero, List.set_cons_succ]
          refine wpAnyZ_takeL (i := 18) (v := undef) rfl (by kernel_rfl) (by kernel_rfl) (by kernel_rfl) (by kernel_rfl) (fun _ _ _ h => h) (Or.inr ⟨by rfl, rfl⟩) (by assumption) ?_
          try simp only [Act.put, List.setIfInBounds_toArray, List.set_cons_zero, List.set_cons_succ]
          refine wpAnyZ_takeL (i := 19) (v := undef) rfl (by kernel_rfl) (by kernel_rfl) (by kernel_rfl) (by kernel_rfl) (fun _ _ _ h => h) (Or.inr ⟨by rfl, rfl⟩) (by assumption) ?_
          try simp only [Act.put, List.setIfInBounds_toArray, List.set_cons_zero, List.set_cons_succ]
          refine wpAnyZ_takeL (i := 20) (v := undef) rfl (by kernel_rfl) (by kernel_rfl) (by kernel_rfl) (by kernel_rfl) (fun _ _ _ h => h) (Or.inr ⟨by rfl, rfl⟩) (by assumption) ?_
          try simp only [Act.put, List.setIfInBounds_toArray, List.set_cons_zero, List.set_cons_succ]
          refine wpAnyZ_takeL (i := 21) (v := undef) rfl (by kernel_rfl) (by kernel_rfl) (by kernel_rfl) (by kernel_rfl) (fun _ _ _ h => h) (Or.inr ⟨by rfl, rfl⟩) (by assumption) ?_
          try simp only [Act.put, List.setIfInBounds_toArray, List.set_cons_zero, List.set_cons_succ]
          refine wpAnyZ_oneL (i := 22) (by kernel_rfl) rfl (fun K hK => ?_)
          rw [if_neg (by intro h; exact Bool.noConfusion (show false = true from h))]
          refine hK.out _ _ (fun _ => hSA1) (fun hHeld => ?_)
          replace hHeld := hHeld (by decide)
          clear hK K
          try simp only [Act.put, List.setIfInBounds_toArray, List.set_cons_zero, List.set_cons_succ]
          refine wpAnyZ_takeL (i := 23) (v := undef) rfl (by kernel_rfl) (by kernel_rfl) (by kernel_rfl) (by kernel_rfl) (fun _ _ _ h => h) (Or.inr ⟨by rfl, rfl⟩) (by assumption) ?_
          try simp only [Act.put, List.setIfInBounds_toArray, List.set_cons_zero, List.set_cons_succ]
          refine wpAnyZ_takeL (i := 24) (v := undef) rfl (by kernel_rfl) (by kernel_rfl) (by kernel_rfl) (by kernel_rfl) (fun _ _ _ h => h) (Or.inr ⟨by rfl, rfl⟩) (by assumption) ?_
          try simp only [Act.put, List.setIfInBounds_toArray, List.set_cons_zero, List.set_cons_succ]
          refine wpAnyZ_takeL (i := 25) (v := undef) rfl (by kernel_rfl) (by kernel_rfl) (by kernel_rfl) (by kernel_rfl) (fun _ _ _ h => h) (Or.inr ⟨by rfl, rfl⟩) (by assumption) ?_
          try simp only [Act.put, List.setIfInBounds_toArray, List.set_cons_zero, List.set_cons_succ]
          refine wpAnyZ_takeL (i := 26) (v := undef) rfl (by kernel_rfl) (by kernel_rfl) (by kernel_rfl) (by kernel_rfl) (fun _ _ _ h => h) (Or.inr ⟨by rfl, rfl⟩) (by assumption) ?_
          try simp only [Act.put, List.setIfInBounds_toArray, List.set_cons_zero, List.set_cons_succ]
          refine wpAnyZ_takeL (i := 27) (v := undef) rfl (by kernel_rfl) (by kernel_rfl) (by kernel_rfl) (by kernel_rfl) (fun _ _ _ h => h) (Or.inr ⟨by rfl, rfl⟩) (by assumption) ?_
          try simp only [Act.put, List.setIfInBounds_toArray, List.set_cons_zero, List.set_cons_succ]
          refine wpAnyZ_takeL (i := 28) (v := undef) rfl (by kernel_rfl) (by kernel_rfl) (by kernel_rfl) (by kernel_rfl) (fun _ _ _ h => h) (Or.inr ⟨by rfl, rfl⟩) (by assumption) ?_
          try simp only [Act.put, List.setIfInBounds_toArray, List.set_cons_zero, List.set_cons_succ]
          refine wpAnyZ_oneL (i := 29) (by kernel_rfl) rfl (fun K hK => ?_)
          rw [if_neg (by intro h; exact Bool.noConfusion (show false = true from h))]
          refine hK.out _ _ (fun _ => hSA1) (fun hHeld => ?_)
          replace hHeld := hHeld (by decide)
          clear hK K
          try simp only [Act.put, List.setIfInBounds_toArray, List.set_cons_zero, List.set_cons_succ]
          refine wpAnyZ_takeL (i := 30) (v := undef) rfl (by kernel_rfl) (by kernel_rfl) (by kernel_rfl) (by kernel_rfl) (fun _ _ _ h => h) (Or.inr ⟨by rfl, rfl⟩) (by assumption) ?_
          try simp only [Act.put, List.setIfInBounds_toArray, List.set_cons_zero, List.set_cons_succ]
          refine wpAnyZ_takeL (i := 31) (v := undef) rfl (by kernel_rfl) (by kernel_rfl) (by kernel_rfl) (by kernel_rfl) (fun _ _ _ h => h) (Or.inr ⟨by rfl, rfl⟩) (by assumption) ?_
          try simp only [Act.put, List.setIfInBounds_toArray, List.set_cons_zero, List.set_cons_succ]
          refine wpAnyZ_takeL (i := 32) (v := ?_) rfl (by kernel_rfl) (by kernel_rfl) (by kernel_rfl) (by kernel_rfl) (fun _ _ _ h => h) (Or.inl ⟨by rfl, ?_⟩) (by assumption) ?_
          rotate_left
          · (intro w hSw; (try dsimp only at hSw); go_simp; try with_reducible rfl)
          try simp only [Act.put, List.setIfInBounds_toArray, List.set_cons_zero, List.set_cons_succ]
          refine wpAnyZ_oneL (i := 33) (by kernel_rfl) rfl (fun K hK => ?_)
          go_simp
          refine hK.out _ _ (fun _ => hSA1) (fun hHeld => ?_)
          replace hHeld := hHeld (by decide)
          clear hK K
          try simp only [Act.put, List.setIfInBounds_toArray, List.set_cons_zero, List.set_cons_succ]
          refine wpAnyZ_done (by kernel_rfl) ?_ _
          clear hHeld
          go_wp2_with fail
          go_meet
          case rel => exact ⟨rfl, hSA1.2.2.2.2⟩
      case rest =>
        obtain ⟨rfl, hcut⟩ := hcut
        have HBC := Lib.hid hcut
        clear hcut W1 W2 W3 W4 HD HSX EXC0 CMB0 HWI HWN HWC HWX HM HA HI HCU H255 HO AW0 HR3
        generalize wc = wd at *
        as_aux_lemma =>
        go_wp2_with fail
        go_loopg [8] (V.length - 1) (LqRel V.length wd)
        case atStart => exact ⟨1, rfl, Nat.le_refl _, by omega, rfl, Below.refl _ _⟩
        case round =>
          obtain ⟨wv, hwv⟩ : ∃ wv : World, wv = wr := ⟨_, rfl⟩
          subst hwv
          obtain ⟨k, rfl, hk1, hkn, rfl, hbv⟩ := hrel
          have HBV := Lib.hid hbv
          have HBZ := Lib.hid (HBC.out.trans (hbv.mono HBC.out.size))
          have y0 := HY.out wv HBZ.out
          clear hbv
          by_cases hlk : k < V.length
          · have hkk : (k : Int) < (V.length : Int) := by omega
            have hk0 : k - 1 < V.length := by omega
            obtain ⟨b1, o1, hao, hb1, n1, _, _⟩ := evar_in (HR.out.below HBZ.out) hlk
            obtain ⟨b2, o2, hao2, _, n2, _, _⟩ := evar_in (HR.out.below HBZ.out) hk0
            subst hao
            injection hao2 with hao2
            injection hao2 with e1 e2 _
            subst e1 e2
            have q1 : IntKind.i64.wrap ((k : Int) - 1) = (k : Int) - 1 := IntWalk.i64_in _ (by omega)
            have q2 : (0 : Int) ≤ (k : Int) - 1 := by omega
            have q3 : ((k : Int) - 1).toNat = k - 1 := by omega
            have q4 : (k : Int) - 1 < (V.length : Int) := by omega
            have q5 : (1 : Int) ≤ (k : Int) := by omega
            have CM := fun W => Lib.hid (rcompare_any V[k - 1].1 V[k].1 (HWF.out _ (List.getElem_mem hk0)).1 (HWF.out _ (List.getElem_mem hlk)).1 W)
            have hneg : natC V[k - 1].1.data.toList V[k].1.data.toList < 0 := asc_at HAS.out (by omega) hlk
            generalize natC V[k - 1].1.data.toList V[k].1.data.toList = z at *
            have t1 : ¬ (0 : Int) ≤ z := by omega
            have t1b : decide ((0 : Int) ≤ z) = false := decide_eq_false t1
            generalize V[k - 1].1 = nx at *
            generalize V[k].1 = ny at *
            have HDR : Hid (Below wv.heap.size wv wv.drew) := (Below.refl _ _).drew
            have HS : Hid (∀ W' : World, Below wv.heap.size wv W' → W'.cell? ⟨bl, off + i, none⟩ = some (.slice (some ⟨b1, o1, none⟩) V.length c) ∧ W'.cell? ⟨b1, o1 + k * 7, none⟩ = some (.string ny) ∧ W'.cell? ⟨b1, o1 + (k - 1) * 7, none⟩ = some (.string nx)) := fun W' hb => ⟨HY.out W' (HBZ.out.trans (hb.mono HBZ.out.size)), (hb.cell (p := ⟨b1, o1 + k * 7, none⟩) hb1).trans n1, (hb.cell (p := ⟨b1, o1 + (k - 1) * 7, none⟩) hb1).trans n2⟩
            clear hneg HWF HAS HR HY
            as_aux_lemma =>
            go_upto_region 14 with fail
            clear y0 n1 n2
            refine wp_region_Z (S := fun W' : World => W'.cell? ⟨bl, off + i, none⟩ = some (.slice (some ⟨b1, o1, none⟩) V.length c) ∧ W'.cell? ⟨b1, o1 + k * 7, none⟩ = some (.string ny) ∧ W'.cell? ⟨b1, o1 + (k - 1) * 7, none⟩ = some (.string nx)) 19 (by kernel_rfl) (HS.out _ HDR.out) (fun hHeld => ?_)
            refine wpAnyZ_takeL (i := 0) (v := ?_) rfl (by kernel_rfl) (by kernel_rfl) (by kernel_rfl) (by kernel_rfl) (fun _ _ _ h => h) (Or.inl ⟨by rfl, ?_⟩) (by assumption) ?_
            rotate_left
            · (intro w hSw; (try dsimp only at hSw); go_simp; try with_reducible rfl)
            try simp only [Act.put, List.setIfInBounds_toArray, List.set_cons_zero, List.set_cons_succ]
            refine wpAnyZ_takeL (i := 1) (v := ?_) rfl (by kernel_rfl) (by kernel_rfl) (by kernel_rfl) (by kernel_rfl) (fun _ _ _ h => h) (Or.inl ⟨by rfl, ?_⟩) (by assumption) ?_
            rotate_left
            · (intro w hSw; (try dsimp only at hSw); go_simp; try with_reducible rfl)
            try simp only [Act.put, List.setIfInBounds_toArray, List.set_cons_zero, List.set_cons_succ]
            refine wpAnyZ_takeL (i := 2) (v := ?_) rfl (by kernel_rfl) (by kernel_rfl) (by kernel_rfl) (by kernel_rfl) (fun _ _ _ h => h) (Or.inl ⟨by rfl, ?_⟩) (by assumption) ?_
            rotate_left
            · (intro w hSw; (try dsimp only at hSw); go_simp; try with_reducible rfl)
            try simp only [Act.put, List.setIfInBounds_toArray, List.set_cons_zero, List.set_cons_succ]
            refine wpAnyZ_takeL (i := 3) (v := ?_) rfl (by kernel_rfl) (by kernel_rfl) (by kernel_rfl) (by kernel_rfl) (fun _ _ _ h => h) (Or.inl ⟨by rfl, ?_⟩) (by assumption) ?_
            rotate_left
            · (intro w hSw; (try dsimp only at hSw); go_simp; try with_reducible rfl)
            try simp only [Act.put, List.setIfInBounds_toArray, List.set_cons_zero, List.set_cons_succ]
            refine wpAnyZ_takeL (i := 4) (v := ?_) rfl (by kernel_rfl) (by kernel_rfl) (by kernel_rfl) (by kernel_rfl) (fun _ _ _ h => h) (Or.inl ⟨by rfl, ?_⟩) (by assumption) ?_
            rotate_left
            · (intro w hSw; (try dsimp only at hSw); go_simp; try with_reducible rfl)
            try simp only [Act.put, List.setIfInBounds_toArray, List.set_cons_zero, List.set_cons_succ]
            refine wpAnyZ_takeL (i := 5) (v := ?_) rfl (by kernel_rfl) (by kernel_rfl) (by kernel_rfl) (by kernel_rfl) (fun _ _ _ h => h) (Or.inl ⟨by rfl, ?_⟩) (by assumption) ?_
            rotate_left
            · (intro w hSw; (try dsimp only at hSw); go_simp; try with_reducible rfl)
            try simp only [Act.put, List.setIfInBounds_toArray, List.set_cons_zero, List.set_cons_succ]
            refine wpAnyZ_takeL (i := 6) (v := ?_) rfl (by kernel_rfl) (by kernel_rfl) (by kernel_rfl) (by kernel_rfl) (fun _ _ _ h => h) (Or.inl ⟨by rfl, ?_⟩) (by assumption) ?_
            rotate_left
            · (intro w hSw; (try dsimp only at hSw); go_simp; try with_reducible rfl)
            try simp only [Act.put, List.setIfInBounds_toArray, List.set_cons_zero, List.set_cons_succ]
            refine wpAnyZ_takeL (i := 7) (v := ?_) rfl (by kernel_rfl) (by kernel_rfl) (by kernel_rfl) (by kernel_rfl) (fun _ _ _ h => h) (Or.inl ⟨by rfl, ?_⟩) (by assumption) ?_
            rotate_left
            · (intro w hSw; (try dsimp only at hSw); go_simp; try with_reducible rfl)
            try simp only [Act.put, List.setIfInBounds_toArray, List.set_cons_zero, List.set_cons_succ]
            refine wpAnyZ_takeL (i := 8) (v := ?_) rfl (by kernel_rfl) (by kernel_rfl) (by kernel_rfl) (by kernel_rfl) (fun _ _ _ h => h) (Or.inl ⟨by rfl, ?_⟩) (by assumption) ?_
            rotate_left
            · (intro w hSw; (try dsimp only at hSw); go_simp; try with_reducible rfl)
            try simp only [Act.put, List.setIfInBounds_toArray, List.set_cons_zero, List.set_cons_succ]
            refine wpAnyZ_takeL (i := 9) (v := ?_) rfl (by kernel_rfl) (by kernel_rfl) (by kernel_rfl) (by kernel_rfl) (fun _ _ _ h => h) (Or.inl ⟨by rfl, ?_⟩) (by assumption) ?_
            rotate_left
            · (intro w hSw; (try dsimp only at hSw); go_simp; try with_reducible rfl)
            try simp only [Act.put, List.setIfInBounds_toArray, List.set_cons_zero, List.set_cons_succ]
            refine wpAnyZ_takeL (i := 10) (v := ?_) rfl (by kernel_rfl) (by kernel_rfl) (by kernel_rfl) (by kernel_rfl) (fun _ _ _ h => h) (Or.inl ⟨by rfl, ?_⟩) (by assumption) ?_
            rotate_left
            · (intro w hSw; (try dsimp only at hSw); go_simp; try with_reducible rfl)
            try simp only [Act.put, List.setIfInBounds_toArray, List.set_cons_zero, List.set_cons_succ]
            refine wpAnyZ_takeL (i := 11) (v := ?_) rfl (by kernel_rfl) (by kernel_rfl) (by kernel_rfl) (by kernel_rfl) (fun _ _ _ h => h) (Or.inl ⟨by rfl, ?_⟩) (by assumption) ?_
            rotate_left
            · (intro w hSw; (try dsimp only at hSw); go_simp; try with_reducible rfl)
            try simp only [Act.put, List.setIfInBounds_toArray, List.set_cons_zero, List.set_cons_succ]
            refine wpAnyZ_takeL (i := 12) (v := ?_) rfl (by kernel_rfl) (by kernel_rfl) (by kernel_rfl) (by kernel_rfl) (fun _ _ _ h => h) (Or.inl ⟨by rfl, ?_⟩) (by assumption) ?_
            rotate_left
            · (intro w hSw; (try dsimp only at hSw); go_simp; try with_reducible rfl)
            try simp only [Act.put, List.setIfInBounds_toArray, List.set_cons_zero, List.set_cons_succ]
            refine wpAnyZ_takeL (i := 13) (v := ?_) rfl (by kernel_rfl) (by kernel_rfl) (by kernel_rfl) (by kernel_rfl) (fun _ _ _ h => h) (Or.inl ⟨by rfl, ?_⟩) (by assumption) ?_
            rotate_left
            · (intro w hSw; (try dsimp only at hSw); go_simp; try with_reducible rfl)
            try simp only [Act.put, List.setIfInBounds_toArray, List.set_cons_zero, List.set_cons_succ]
            refine wpAnyZ_takeL (i := 14) (v := ?_) rfl (by kernel_rfl) (by kernel_rfl) (by kernel_rfl) (by kernel_rfl) (fun _ _ _ h => h) (Or.inl ⟨by rfl, ?_⟩) (by assumption) ?_
            rotate_left
            · (intro w hSw; (try dsimp only at hSw); go_simp; try with_reducible rfl)
            try simp only [Act.put, List.setIfInBounds_toArray, List.set_cons_zero, List.set_cons_succ]
            refine wpAnyZ_takeL (i := 15) (v := ?_) rfl (by kernel_rfl) (by kernel_rfl) (by kernel_rfl) (by kernel_rfl) (fun _ _ _ h => h) (Or.inl ⟨by rfl, ?_⟩) (by assumption) ?_
            rotate_left
            · (intro w hSw; (try dsimp only at hSw); go_simp; try with_reducible rfl)
            try simp only [Act.put, List.setIfInBounds_toArray, List.set_cons_zero, List.set_cons_succ]
            refine wpAnyZ_takeL (i := 16) (v := ?_) rfl (by kernel_rfl) (by kernel_rfl) (by kernel_rfl) (by kernel_rfl) (fun _ _ _ h => h) (Or.inl ⟨by rfl, ?_⟩) (by assumption) ?_
            rotate_left
            · (intro w hSw; (try dsimp only at hSw); go_simp; try with_reducible rfl)
            try simp only [Act.put, List.setIfInBounds_toArray, List.set_cons_zero, List.set_cons_succ]
            refine wpAnyZ_oneL (i := 17) (by kernel_rfl) rfl (fun K hK => ?_)
            go_simp
            go_at_call 22
            refine (CM _).out.mono ?_
            rintro e w5 ⟨rfl, hu5⟩
            have HB9 : Hid (Below wv.heap.size wv w5) := HDR.out.trans (hu5.b.mono (Nat.le_refl _))
            have HB5 : Hid (Below wd.heap.size wd w5) := HBV.out.trans (HB9.out.mono HBV.out.size)
            clear hu5
            refine hK.out _ _ (fun _ => HS.out _ HB9.out) (fun hHeld => ?_)
            replace hHeld := hHeld (by decide)
            clear hK K
            try simp only [Act.put, List.setIfInBounds_toArray, List.set_cons_zero, List.set_cons_succ]
            refine wpAnyZ_oneL (i := 18) (by kernel_rfl) rfl (fun K hK => ?_)
            go_simp
            refine hK.out _ _ (fun _ => HS.out _ HB9.out) (fun hHeld => ?_)
            replace hHeld := hHeld (by decide)
            clear hK K
            try simp only [Act.put, List.setIfInBounds_toArray, List.set_cons_zero, List.set_cons_succ]
            refine wpAnyZ_done (by kernel_rfl) ?_ _
            clear hHeld
            clear CM q1 q2 q3 q4 q5
            go_wp2_with fail
            go_roundg (V.length - (k + 1))
            case measure => omega
            case rel => exact ⟨k + 1, by go_num, by omega, by omega, rfl, HB5.out⟩
          · have hkk : ¬ (k : Int) < (V.length : Int) := by omega
            clear HWF HAS HR
            as_aux_lemma =>
            go_wp2_with fail
            go_roundg (O.length - (i + 1))
            case measure => omega
            case rel => exact ⟨i + 1, by go_num, by omega, rfl, HB.out.trans (HBZ.out.mono HB.out.size)⟩
    · have hii : ¬ (i : Int) < (O.length : Int) := by omega
      have HZ := Lib.hid HB.out
      clear hlt hi HWI HWN CMB0
      obtain ⟨c0, c1, c2⟩ := HF3.out wz HB.out
      as_aux_lemma =>
      go_wp2_with fail
      clear c0 c1 c2
      go_loopg [9] m.incl.length (LpRel m.incl.length w3)
      case atStart => exact ⟨0, rfl, Nat.zero_le _, rfl, HZ.out⟩
      case round =>
        obtain ⟨wy, hwy⟩ : ∃ wy : World, wy = wr := ⟨_, rfl⟩
        subst hwy
        obtain ⟨j, rfl, hj, rfl, hbel⟩ := hrel
        have HY := Lib.hid hbel
        obtain ⟨c0, c1, c2⟩ := HF3.out wy hbel
        clear hbel hii HZ HB
        by_cases hlt : j < m.incl.length
        · have hjj : (j : Int) < (m.incl.length : Int) := by omega
          obtain ⟨bl, off, a, c, hio, hbl, y0, hr⟩ := evars_at (HI.out.below (HX3.out wy HY.out)) hlt
          subst hio
          have WC := Lib.hid (HWC.out j hlt _ wy hr HY.out)
          clear hr HWC HWX HO HR3 HI HA HM EXC0 AW0 HCU H255 hbl
          generalize m.incl[j].length = nj at *
          as_aux_lemma =>
          go_wp2_with fail
          refine WC.out.mono ?_
          rintro e w5 ⟨rfl, hb⟩
          have HB5 := Lib.hid (HY.out.trans (hb.mono HY.out.size))
          clear hb WC y0 c0 c1 c2
          go_wp2_with fail
          go_roundg (m.incl.length - (j + 1))
          case measure => omega
          case rel => exact ⟨j + 1, by go_num, by omega, rfl, HB5.out⟩
        · have hjj : ¬ (j : Int) < (m.incl.length : Int) := by omega
          clear hlt hj HWC
          have HV0 : Hid (LwRel C m.axes w wy m.axes.length (.slice none 0 0) (.int .i64 0) wy) := ⟨0, rfl, Nat.zero_le _, rfl, fun a ha => (by cases ha), .nil, Below.refl _ _⟩
          as_aux_lemma =>
          go_wp2_with fail
          clear c0 c1 c2 hjj
          go_loopg [10, 11] m.axes.length (LwRel C m.axes w wy)
          case atStart => exact HV0.out
          case round =>
            clear HV0
            obtain ⟨wx, hwx⟩ : ∃ wx : World, wx = wr := ⟨_, rfl⟩
            subst hwx
            obtain ⟨i, rfl, hi, rfl, hall, hown, hbel⟩ := hrel
            have HBX := Lib.hid hbel
            have HBW := Lib.hid (HY.out.trans (hbel.mono HY.out.size))
            have HAL := Lib.hid hall
            have HOW := Lib.hid hown
            obtain ⟨c0, c1, c2⟩ := HF3.out wx HBW.out
            clear hbel hall hown
            by_cases hlt : i < m.axes.length
            · have hii : (i : Int) < (m.axes.length : Int) := by omega
              obtain ⟨vo, vc, rfl⟩ := HOW.out.form
              have HTK : Hid (m.axes.take (i + 1) = m.axes.take i ++ [m.axes[i]]) := List.take_succ_eq_append_getElem hlt
              have HTL : Hid ((chTo C 0 (m.axes.take i)).length = i) := by
                have : ∀ (l : List AX) (s : Nat), (chTo C s l).length = l.length := fun l => by
                  induction l with
                  | nil => exact fun s => rfl
                  | cons a l ih => exact fun s => by rw [chTo, List.length_cons, List.length_cons, ih]
                unfold Hid; rw [this, List.length_take]; omega
              rw [HTL.out]
              have HSN : Hid (chTo C 0 (m.axes.take (i + 1)) = chTo C 0 (m.axes.take i) ++ [chV C i m.axes[i]]) := by unfold Hid; rw [HTK.out, chTo_snoc, List.length_take, Nat.min_eq_left hi, Nat.zero_add]
              have hwa := HM.out.ax _ (List.getElem_mem hlt)
              obtain ⟨ba, oa, av, cv, hao, hba, y0, y1, hva⟩ := eax_at HA.out hlt
              subst hao
              have HVA := Lib.hid (hva.below (HX3.out wx HBW.out))
              have hn2 := hwa.2.1
              have HYY : Hid (∀ W', Below w.heap.size w W' → W'.cell? ⟨ba, oa + i * 2, none⟩ = some (.string m.axes[i].1) ∧ W'.cell? ⟨ba, oa + i * 2 + 1, none⟩ = some (.slice av m.axes[i].2.length cv)) := fun W' hb => ⟨(hb.cell (p := ⟨ba, oa + i * 2, none⟩) hba).trans y0, (hb.cell (p := ⟨ba, oa + i * 2 + 1, none⟩) hba).trans y1⟩
              clear y0 y1
              obtain ⟨y0, y1⟩ := HYY.out wx (HX3.out wx HBW.out)
              have h255i : C.getD i 0 ≤ 255 := by
                by_cases hc : i < C.length
                · rw [getD_lt8 hc]; exact H255.out _ (List.getElem_mem hc)
                · rw [getD_ge8 (by omega)]; decide
              have HNE : Hid (0 < m.axes[i].2.length → ∀ a ∈ m.axes.take (i + 1), 0 < a.2.length) := fun h a ha => by
                rw [HTK.out] at ha
                rcases List.mem_append.1 ha with ha | ha
                · exact HAL.out a ha
                · rw [List.mem_singleton.1 ha]; exact h
              have HCH : Hid (∀ h : 0 < m.axes[i].2.length, chV C i m.axes[i] = (m.axes[i].1, m.axes[i].2[C.getD i 0 % m.axes[i].2.length]'(Nat.mod_lt _ h))) := fun h => chV_mem h
              have HCD : Hid (¬ i < C.length → C.getD i 0 = 0) := fun hc => getD_ge8 (by omega)
              have HCI : Hid (∀ hc : i < C.length, C[i] = C.getD i 0) := fun hc => (getD_lt8 hc).symm
              clear hva hwa HWX HO HM HTK HAL EXC0 HI
              generalize m.axes[i] = ax at *
              generalize C.getD i 0 = kk at *
              as_aux_lemma =>
              go_upto_if 123 with fail
              go_cut [12] (fun s12 wq => s12 = .int .i64 (kk : Nat) ∧ wx = wq)
              case first =>
                clear c0 c1 c2 y0 y1 HVA
                by_cases hc : i < C.length
                · have hcc : (i : Int) < (C.length : Int) := by omega
                  obtain ⟨bc, oc, huo, hbc, yc⟩ := u8_at (HCU.out.below (HX3.out wx HBW.out)) hc
                  subst huo
                  rw [HCI.out hc] at yc
                  have qw : IntKind.i64.wrap (kk : Int) = (kk : Int) := IntWalk.i64_in _ (by omega)
                  as_aux_lemma =>
                  go_wp2_with fail
                  go_meet
                  case rel => exact ⟨rfl, rfl⟩
                · have hcc : ¬ (i : Int) < (C.length : Int) := by omega
                  have hk : kk = 0 := HCD.out hc
                  subst hk
                  as_aux_lemma =>
                  go_wp2_with fail
                  go_meet
                  case rel => exact ⟨rfl, rfl⟩
              case rest =>
                obtain ⟨rfl, rfl⟩ := hcut
                obtain ⟨nm, vals⟩ := ax
                by_cases h0 : vals.length = 0
                · have t0 : ((vals.length : Int) == 0) = true := by rw [h0]; rfl
                  have y1 : wx.cell? ⟨ba, oa + i * 2 + 1, none⟩ = some (.slice av vals.length cv) := y1
                  clear h0 HNE HCH HSN HVA HYY HCU H255 HCI HCD
                  as_aux_lemma =>
                  go_wp2_with fail
                  refine (AW0.out wx (HX3.out wx HBW.out)).mono ?_
                  rintro e w5 ⟨rfl, hb⟩
                  have H5 := Lib.hid ((HX3.out wx HBW.out).trans (hb.mono (HX3.out wx HBW.out).size))
                  clear hb
                  go_wp2_with fail
                  go_ret
                  exact ⟨rfl, H5.out⟩
                · have t0 : ((vals.length : Int) == 0) = false := beq_eq_false_iff_ne.2 (by omega)
                  have hpos : 0 < vals.length := by omega
                  have HN2 := Lib.hid (HNE.out hpos)
                  have HC2 := Lib.hid (HCH.out hpos)
                  have hd : kk % vals.length < vals.length := Nat.mod_lt _ hpos
                  have qd := tmod_natM kk vals.length
                  have y1 : wx.cell? ⟨ba, oa + i * 2 + 1, none⟩ = some (.slice av vals.length cv) := y1
                  obtain ⟨t, ht⟩ : ∃ t, t = vals[kk % vals.length]'hd := ⟨_, rfl⟩
                  have HSN : Hid (chTo C 0 (m.axes.take (i + 1)) = chTo C 0 (m.axes.take i) ++ [(nm, t)]) := by unfold Hid; rw [HSN.out, HC2.out, ht]
                  obtain ⟨bv, ov, cs, hav, hbw, hbv, hcell, hRR⟩ := HVA.out.at (k := kk % vals.length) hd
                  have hR : EVal.R (fun b => b < w.heap.size) wx t cs := by rw [ht]; exact hRR
                  clear hRR
                  subst hav
                  have HVC := Lib.hid hR
                  obtain ⟨lo, lc, ko, kc, rfl⟩ := vcellB_slices hR
                  have hdn : ((kk % vals.length : Nat) : Int) < (vals.length : Int) := by omega
                  have HOW : Hid (EVar.Own 48 wy.heap.size (fun b => b < w.heap.size) wx (chTo C 0 (m.axes.take i)) (.slice vo i vc)) := by have := HOW.out; rwa [HTL.out] at this
                  have hvne : ¬ vals = [] := fun e => by rw [e] at hpos; cases hpos
                  have hlen9 := hla
                  have hwy := HSZ.out wy HY.out
                  have hyx := HBX.out.size
                  clear HNE HCH HCI HCD HCU H255 HVA h0 hR ht HC2
                  generalize kk % vals.length = d at *
                  have HS : Hid (∀ W' : World, Below wx.heap.size wx W' → W'.cell? ⟨w.heap.size, 0, none⟩ = some (.slice (some ⟨ba, oa, none⟩) m.axes.length ac) ∧ W'.cell? ⟨ba, oa + i * 2, none⟩ = some (.string nm) ∧ W'.cell? ⟨ba, oa + i * 2 + 1, none⟩ = some (.slice (some ⟨bv, ov, none⟩) vals.length cv) ∧ W'.cell? ⟨bv, ov + d * 6, none⟩ = some (.int .i64 t.kind) ∧ W'.cell? ⟨bv, ov + d * 6 + 1, none⟩ = some (.bool t.bool) ∧ W'.cell? ⟨bv, ov + d * 6 + 2, none⟩ = some (.int .i64 t.int) ∧ W'.cell? ⟨bv, ov + d * 6 + 3, none⟩ = some (.string t.str) ∧ W'.cell? ⟨bv, ov + d * 6 + 4, none⟩ = some (.slice lo t.list.length lc) ∧ W'.cell? ⟨bv, ov + d * 6 + 5, none⟩ = some (.slice ko t.keys.length kc)) := fun W' hb => by
                    obtain ⟨q0, q1⟩ := HYY.out W' (HX3.out W' (HBW.out.trans (hb.mono HBW.out.size)))
                    exact ⟨(HF3.out W' (HBW.out.trans (hb.mono HBW.out.size))).1, q0, q1, (hb.cell (p := ⟨bv, ov + d * 6, none⟩) hbv).trans (hcell 0 _ rfl), (hb.cell (p := ⟨bv, ov + d * 6 + 1, none⟩) hbv).trans (hcell 1 _ rfl), (hb.cell (p := ⟨bv, ov + d * 6 + 2, none⟩) hbv).trans (hcell 2 _ rfl), (hb.cell (p := ⟨bv, ov + d * 6 + 3, none⟩) hbv).trans (hcell 3 _ rfl), (hb.cell (p := ⟨bv, ov + d * 6 + 4, none⟩) hbv).trans (hcell 4 _ rfl), (hb.cell (p := ⟨bv, ov + d * 6 + 5, none⟩) hbv).trans (hcell 5 _ rfl)⟩
                  have HDR : Hid (Below wx.heap.size wx wx.drew) := (Below.refl _ _).drew
                  have HLA8 := Lib.hid H8.out
                  obtain ⟨iV, hiV, hzV, hnV, hyV⟩ := Tryz.vinfoVar'
                  have HI := Lib.hid hiV
                  clear hiV hcell HYY
                  as_aux_lemma =>
                  go_upto_region 30 with fail
                  clear c0 c1 c2 y0 y1 AW0
                  refine wp_region_Z (S := fun W' : World => W'.cell? ⟨w.heap.size, 0, none⟩ = some (.slice (some ⟨ba, oa, none⟩) m.axes.length ac) ∧ W'.cell? ⟨ba, oa + i * 2, none⟩ = some (.string nm) ∧ W'.cell? ⟨ba, oa + i * 2 + 1, none⟩ = some (.slice (some ⟨bv, ov, none⟩) vals.length cv) ∧ W'.cell? ⟨bv, ov + d * 6, none⟩ = some (.int .i64 t.kind) ∧ W'.cell? ⟨bv, ov + d * 6 + 1, none⟩ = some (.bool t.bool) ∧ W'.cell? ⟨bv, ov + d * 6 + 2, none⟩ = some (.int .i64 t.int) ∧ W'.cell? ⟨bv, ov + d * 6 + 3, none⟩ = some (.string t.str) ∧ W'.cell? ⟨bv, ov + d * 6 + 4, none⟩ = some (.slice lo t.list.length lc) ∧ W'.cell? ⟨bv, ov + d * 6 + 5, none⟩ = some (.slice ko t.keys.length kc)) 27 (by kernel_rfl) (HS.out _ HDR.out) (fun hHeld => ?_)
                  refine wpAnyZ_takeL (i := 0) (v := ?_) rfl (by kernel_rfl) (by kernel_rfl) (by kernel_rfl) (by kernel_rfl) (fun _ _ _ h => h) (Or.inl ⟨by rfl, ?_⟩) (by assumption) ?_
                  rotate_left
                  · (intro w hSw; (try dsimp only at hSw); go_simp; try with_reducible rfl)
                  try simp only [Act.put, List.setIfInBounds_toArray, List.set_cons_zero, List.set_cons_succ]
                  refine wpAnyZ_takeL (i := 1) (v := ?_) rfl (by kernel_rfl) (by kernel_rfl) (by kernel_rfl) (by kernel_rfl) (fun _ _ _ h => h) (Or.inl ⟨by rfl, ?_⟩) (by assumption) ?_
                  rotate_left
                  · (intro w hSw; (try dsimp only at hSw); go_simp; try with_reducible rfl)
                  try simp only [Act.put, List.setIfInBounds_toArray, List.set_cons_zero, List.set_cons_succ]
                  refine wpAnyZ_takeL (i := 2) (v := ?_) rfl (by kernel_rfl) (by kernel_rfl) (by kernel_rfl) (by kernel_rfl) (fun _ _ _ h => h) (Or.inl ⟨by rfl, ?_⟩) (by assumption) ?_
                  rotate_left
                  · (intro w hSw; (try dsimp only at hSw); go_simp; try with_reducible rfl)
                  try simp only [Act.put, List.setIfInBounds_toArray, List.set_cons_zero, List.set_cons_succ]
                  refine wpAnyZ_takeL (i := 3) (v := ?_) rfl (by kernel_rfl) (by kernel_rfl) (by kernel_rfl) (by kernel_rfl) (fun _ _ _ h => h) (Or.inl ⟨by rfl, ?_⟩) (by assumption) ?_
                  rotate_left
                  · (intro w hSw; (try dsimp only at hSw); go_simp; try with_reducible rfl)
                  try simp only [Act.put, List.setIfInBounds_toArray, List.set_cons_zero, List.set_cons_succ]
                  refine wpAnyZ_takeL (i := 4) (v := ?_) rfl (by kernel_rfl) (by kernel_rfl) (by kernel_rfl) (by kernel_rfl) (fun _ _ _ h => h) (Or.inl ⟨by rfl, ?_⟩) (by assumption) ?_
                  rotate_left
                  · (intro w hSw; (try dsimp only at hSw); go_simp; try with_reducible rfl)
                  try simp only [Act.put, List.setIfInBounds_toArray, List.set_cons_zero, List.set_cons_succ]
                  refine wpAnyZ_takeL (i := 5) (v := ?_) rfl (by kernel_rfl) (by kernel_rfl) (by kernel_rfl) (by kernel_rfl) (fun _ _ _ h => h) (Or.inl ⟨by rfl, ?_⟩) (by assumption) ?_
                  rotate_left
                  · (intro w hSw; (try dsimp only at hSw); go_simp; try with_reducible rfl)
                  try simp only [Act.put, List.setIfInBounds_toArray, List.set_cons_zero, List.set_cons_succ]
                  refine wpAnyZ_takeL (i := 6) (v := ?_) rfl (by kernel_rfl) (by kernel_rfl) (by kernel_rfl) (by kernel_rfl) (fun _ _ _ h => h) (Or.inl ⟨by rfl, ?_⟩) (by assumption) ?_
                  rotate_left
                  · (intro w hSw; (try dsimp only at hSw); go_simp; try with_reducible rfl)
                  try simp only [Act.put, List.setIfInBounds_toArray, List.set_cons_zero, List.set_cons_succ]
                  refine wpAnyZ_takeL (i := 7) (v := ?_) rfl (by kernel_rfl) (by kernel_rfl) (by kernel_rfl) (by kernel_rfl) (fun _ _ _ h => h) (Or.inl ⟨by rfl, ?_⟩) (by assumption) ?_
                  rotate_left
                  · (intro w hSw; (try dsimp only at hSw); go_simp; try with_reducible rfl)
                  try simp only [Act.put, List.setIfInBounds_toArray, List.set_cons_zero, List.set_cons_succ]
                  refine wpAnyZ_takeL (i := 8) (v := ?_) rfl (by kernel_rfl) (by kernel_rfl) (by kernel_rfl) (by kernel_rfl) (fun _ _ _ h => h) (Or.inl ⟨by rfl, ?_⟩) (by assumption) ?_
                  rotate_left
                  · (intro w hSw; (try dsimp only at hSw); go_simp; try with_reducible rfl)
                  try simp only [Act.put, List.setIfInBounds_toArray, List.set_cons_zero, List.set_cons_succ]
                  refine wpAnyZ_takeL (i := 9) (v := ?_) rfl (by kernel_rfl) (by kernel_rfl) (by kernel_rfl) (by kernel_rfl) (fun _ _ _ h => h) (Or.inl ⟨by rfl, ?_⟩) (by assumption) ?_
                  rotate_left
                  · (intro w hSw; (try dsimp only at hSw); go_simp; try with_reducible rfl)
                  try simp only [Act.put, List.setIfInBounds_toArray, List.set_cons_zero, List.set_cons_succ]
                  refine wpAnyZ_takeL (i := 10) (v := ?_) rfl (by kernel_rfl) (by kernel_rfl) (by kernel_rfl) (by kernel_rfl) (fun _ _ _ h => h) (Or.inl ⟨by rfl, ?_⟩) (by assumption) ?_
                  rotate_left
                  · (intro w hSw; (try dsimp only at hSw); go_simp; try with_reducible rfl)
                  try simp only [Act.put, List.setIfInBounds_toArray, List.set_cons_zero, List.set_cons_succ]
                  refine wpAnyZ_takeL (i := 11) (v := ?_) rfl (by kernel_rfl) (by kernel_rfl) (by kernel_rfl) (by kernel_rfl) (fun _ _ _ h => h) (Or.inl ⟨by rfl, ?_⟩) (by assumption) ?_
                  rotate_left
                  · (intro w hSw; (try dsimp only at hSw); go_simp; try with_reducible rfl)
                  try simp only [Act.put, List.setIfInBounds_toArray, List.set_cons_zero, List.set_cons_succ]
                  refine wpAnyZ_takeL (i := 12) (v := ?_) rfl (by kernel_rfl) (by kernel_rfl) (by kernel_rfl) (by kernel_rfl) (fun _ _ _ h => h) (Or.inl ⟨by rfl, ?_⟩) (by assumption) ?_
                  rotate_left
                  · (intro w hSw; (try dsimp only at hSw); go_simp; try with_reducible rfl)
                  try simp only [Act.put, List.setIfInBounds_toArray, List.set_cons_zero, List.set_cons_succ]
                  refine wpAnyZ_takeL (i := 13) (v := ?_) rfl (by kernel_rfl) (by kernel_rfl) (by kernel_rfl) (by kernel_rfl) (fun _ _ _ h => h) (Or.inl ⟨by rfl, ?_⟩) (by assumption) ?_
                  rotate_left
                  · (intro w hSw; (try dsimp only at hSw); go_simp; try with_reducible rfl)
                  try simp only [Act.put, List.setIfInBounds_toArray, List.set_cons_zero, List.set_cons_succ]
                  refine wpAnyZ_takeL (i := 14) (v := ?_) rfl (by kernel_rfl) (by kernel_rfl) (by kernel_rfl) (by kernel_rfl) (fun _ _ _ h => h) (Or.inl ⟨by rfl, ?_⟩) (by assumption) ?_
                  rotate_left
                  · (intro w hSw; (try dsimp only at hSw); go_simp; try with_reducible rfl)
                  try simp only [Act.put, List.setIfInBounds_toArray, List.set_cons_zero, List.set_cons_succ]
                  refine wpAnyZ_takeL (i := 15) (v := ?_) rfl (by kernel_rfl) (by kernel_rfl) (by kernel_rfl) (by kernel_rfl) (fun _ _ _ h => h) (Or.inl ⟨by rfl, ?_⟩) (by assumption) ?_
                  rotate_left
                  · (intro w hSw; (try dsimp only at hSw); go_simp; try with_reducible rfl)
                  try simp only [Act.put, List.setIfInBounds_toArray, List.set_cons_zero, List.set_cons_succ]
                  refine wpAnyZ_takeL (i := 16) (v := ?_) rfl (by kernel_rfl) (by kernel_rfl) (by kernel_rfl) (by kernel_rfl) (fun _ _ _ h => h) (Or.inl ⟨by rfl, ?_⟩) (by assumption) ?_
                  rotate_left
                  · (intro w hSw; (try dsimp only at hSw); go_simp; try with_reducible rfl)
                  try simp only [Act.put, List.setIfInBounds_toArray, List.set_cons_zero, List.set_cons_succ]
                  refine wpAnyZ_takeL (i := 17) (v := ?_) rfl (by kernel_rfl) (by kernel_rfl) (by kernel_rfl) (by kernel_rfl) (fun _ _ _ h => h) (Or.inl ⟨by rfl, ?_⟩) (by assumption) ?_
                  rotate_left
                  · (intro w hSw; (try dsimp only at hSw); go_simp; try with_reducible rfl)
                  try simp only [Act.put, List.setIfInBounds_toArray, List.set_cons_zero, List.set_cons_succ]
                  refine wpAnyZ_takeL (i := 18) (v := ?_) rfl (by kernel_rfl) (by kernel_rfl) (by kernel_rfl) (by kernel_rfl) (fun _ _ _ h => h) (Or.inl ⟨by rfl, ?_⟩) (by assumption) ?_
                  rotate_left
                  · (intro w hSw; (try dsimp only at hSw); go_simp; try with_reducible rfl)
                  try simp only [Act.put, List.setIfInBounds_toArray, List.set_cons_zero, List.set_cons_succ]
                  refine wpAnyZ_takeL (i := 19) (v := ?_) rfl (by kernel_rfl) (by kernel_rfl) (by kernel_rfl) (by kernel_rfl) (fun _ _ _ h => h) (Or.inl ⟨by rfl, ?_⟩) (by assumption) ?_
                  rotate_left
                  · (intro w hSw; (try dsimp only at hSw); go_simp; try with_reducible rfl)
                  try simp only [Act.put, List.setIfInBounds_toArray, List.set_cons_zero, List.set_cons_succ]
                  refine wpAnyZ_takeL (i := 20) (v := ?_) rfl (by kernel_rfl) (by kernel_rfl) (by kernel_rfl) (by kernel_rfl) (fun _ _ _ h => h) (Or.inl ⟨by rfl, ?_⟩) (by assumption) ?_
                  rotate_left
                  · (intro w hSw; (try dsimp only at hSw); go_simp; try with_reducible rfl)
                  try simp only [Act.put, List.setIfInBounds_toArray, List.set_cons_zero, List.set_cons_succ]
                  refine wpAnyZ_takeL (i := 21) (v := ?_) rfl (by kernel_rfl) (by kernel_rfl) (by kernel_rfl) (by kernel_rfl) (fun _ _ _ h => h) (Or.inl ⟨by rfl, ?_⟩) (by assumption) ?_
                  rotate_left
                  · (intro w hSw; (try dsimp only at hSw); go_simp; try with_reducible rfl)
                  try simp only [Act.put, List.setIfInBounds_toArray, List.set_cons_zero, List.set_cons_succ]
                  refine wpAnyZ_takeL (i := 22) (v := ?_) rfl (by kernel_rfl) (by kernel_rfl) (by kernel_rfl) (by kernel_rfl) (fun _ _ _ h => h) (Or.inl ⟨by rfl, ?_⟩) (by assumption) ?_
                  rotate_left
                  · (intro w hSw; (try dsimp only at hSw); go_simp; try with_reducible rfl)
                  try simp only [Act.put, List.setIfInBounds_toArray, List.set_cons_zero, List.set_cons_succ]
                  refine wpAnyZ_takeL (i := 23) (v := ?_) rfl (by kernel_rfl) (by kernel_rfl) (by kernel_rfl) (by kernel_rfl) (fun _ _ _ h => h) (Or.inl ⟨by rfl, ?_⟩) (by assumption) ?_
                  rotate_left
                  · (intro w hSw; (try dsimp only at hSw); go_simp; try with_reducible rfl)
                  try simp only [Act.put, List.setIfInBounds_toArray, List.set_cons_zero, List.set_cons_succ]
                  obtain ⟨wd, hwd⟩ : ∃ wd, wx.drew = wd := ⟨_, rfl⟩
                  rw [hwd] at HDR ⊢
                  refine wpAnyZ_oneL (i := 24) (by kernel_rfl) rfl (fun K hK => ?_)
                  rw [if_pos (by rfl)]
                  refine wp_build2M 48 (.tmp 144) (.tmp 161) rfl _ _ rfl rfl #[.string nm, .int .i64 t.kind, .bool t.bool, .int .i64 t.int, .string t.str, .slice lo t.list.length lc, .slice ko t.keys.length kc] (Tryz.built_var _ _ _ _ _ _ _) ?_
                  refine hK.out _ _ (fun _ => HS.out _ HDR.out) (fun hHeld => ?_)
                  replace hHeld := hHeld (by decide)
                  clear hK K
                  try simp only [Act.put, List.setIfInBounds_toArray, List.set_cons_zero, List.set_cons_succ]
                  refine wpAnyZ_oneL (i := 25) (by kernel_rfl) rfl (fun K hK => ?_)
                  rw [if_pos (by rfl)]
                  refine wp_build1 36 48 (.tmp 162) rfl #[.string nm, .int .i64 t.kind, .bool t.bool, .int .i64 t.int, .string t.str, .slice lo t.list.length lc, .slice ko t.keys.length kc] iV _ Tryz.underlying36 HI.out hzV 7 hnV (by decide) (by decide) rfl rfl ?_
                  obtain ⟨W7, hW7⟩ : ∃ W7, wd.alloc (.cells #[.string nm, .int .i64 t.kind, .bool t.bool, .int .i64 t.int, .string t.str, .slice lo t.list.length lc, .slice ko t.keys.length kc] 48) = W7 := ⟨_, rfl⟩
                  have hk7 : W7.heap[wd.heap.size]? = some (.cells #[.string nm, .int .i64 t.kind, .bool t.bool, .int .i64 t.int, .string t.str, .slice lo t.list.length lc, .slice ko t.keys.length kc] 48 (0, 0)) := by rw [← hW7]; exact hp_new rfl
                  have HB7 : Hid (Below wx.heap.size wx W7) := by unfold Hid; rw [← hW7]; exact HDR.out.alloc HDR.out.size _
                  have HO7 : Hid (EVar.Own 48 wy.heap.size (fun q => q < w.heap.size) W7 (chTo C 0 (m.axes.take i)) (.slice vo i vc)) := HOW.out.below HB7.out
                  rw [hW7]
                  clear hW7
                  refine hK.out _ _ (fun _ => HS.out _ HB7.out) (fun hHeld => ?_)
                  replace hHeld := hHeld (by decide)
                  clear hK K
                  try simp only [Act.put, List.setIfInBounds_toArray, List.set_cons_zero, List.set_cons_succ]
                  have HX7 : Hid (EVar.R (fun q => q < w.heap.size ∧ (Value.slice vo i vc).ownBlock ≠ some q) W7 (nm, t) [.string nm, .int .i64 t.kind, .bool t.bool, .int .i64 t.int, .string t.str, .slice lo t.list.length lc, .slice ko t.keys.length kc]) := evar_mk (EVal.mono (EVal.keep HVC.out HB7.out.size fun b _ hl => HB7.out.block b hl) (fun q hq => ⟨hq, fun e => by have h1 := (HO7.out.low q e).1; omega⟩))
                  have hz7 := HB7.out.size
                  have hzd := HDR.out.size
                  have h2000 := HLA8.out
                  refine wpAnyZ_oneL (i := 26) (by kernel_rfl) rfl (fun K hK => ?_)
                  rw [if_pos (by rfl)]
                  refine wp_own_push (E := EVar) (.tmp 138) (.tmp 163) 36 rfl wy.heap.size 48 iV _ 104 Tryz.underlying36 HI.out hzV hnV hyV rfl _ (.slice vo i vc) rfl HO7.out (nm, t) [.string nm, .int .i64 t.kind, .bool t.bool, .int .i64 t.int, .string t.str, .slice lo t.list.length lc, .slice ko t.keys.length kc] HX7.out wd.heap.size (0, 0) hk7 rfl (by rw [HTL.out]; unfold maxLen; omega) (by rw [HTL.out]; omega) (by omega) ?_
                  intro v8 w8 hown hgrow hpu
                  rw [← HSN.out] at hown
                  have HB8 : Hid (Below wy.heap.size wy w8) := (HBX.out.trans (HB7.out.mono HBX.out.size)).trans (below_grown hgrow (by omega) (fun q e => (HO7.out.low q e).1))
                  have HOW8 := Lib.hid hown
                  have HS8 : Hid (w8.cell? ⟨w.heap.size, 0, none⟩ = some (.slice (some ⟨ba, oa, none⟩) m.axes.length ac) ∧ w8.cell? ⟨ba, oa + i * 2, none⟩ = some (.string nm) ∧ w8.cell? ⟨ba, oa + i * 2 + 1, none⟩ = some (.slice (some ⟨bv, ov, none⟩) vals.length cv) ∧ w8.cell? ⟨bv, ov + d * 6, none⟩ = some (.int .i64 t.kind) ∧ w8.cell? ⟨bv, ov + d * 6 + 1, none⟩ = some (.bool t.bool) ∧ w8.cell? ⟨bv, ov + d * 6 + 2, none⟩ = some (.int .i64 t.int) ∧ w8.cell? ⟨bv, ov + d * 6 + 3, none⟩ = some (.string t.str) ∧ w8.cell? ⟨bv, ov + d * 6 + 4, none⟩ = some (.slice lo t.list.length lc) ∧ w8.cell? ⟨bv, ov + d * 6 + 5, none⟩ = some (.slice ko t.keys.length kc)) := by
                    have hk : ∀ (b o : Nat) (u : Value), b < wy.heap.size → W7.cell? ⟨b, o, none⟩ = some u → w8.cell? ⟨b, o, none⟩ = some u := fun b o u h1 h3 => (World.cell?_of_block (a := ⟨b, o, none⟩) (hgrow.block b (by omega) (fun e => by have := (HO7.out.low _ e.symm).1; omega))).trans h3
                    have hs7 := HS.out _ HB7.out
                    obtain ⟨s0, s1, s2, s3, s4, s5, s6, s7, s8⟩ := hs7
                    exact ⟨hk _ _ _ hwy s0, hk _ _ _ (by omega) s1, hk _ _ _ (by omega) s2, hk _ _ _ (by omega) s3, hk _ _ _ (by omega) s4, hk _ _ _ (by omega) s5, hk _ _ _ (by omega) s6, hk _ _ _ (by omega) s7, hk _ _ _ (by omega) s8⟩
                  clear hown hgrow hpu HX7 HO7 HOW hk7
                  refine hK.out _ _ (fun _ => HS8.out) (fun hHeld => ?_)
                  replace hHeld := hHeld (by decide)
                  clear hK K
                  try simp only [Act.put, List.setIfInBounds_toArray, List.set_cons_zero, List.set_cons_succ]
                  refine wpAnyZ_oneL (i := 27) (by kernel_rfl) rfl (fun K hK => ?_)
                  go_simp
                  refine hK.out _ _ (fun h => absurd h (by decide)) (fun _ => ?_)
                  clear hK K
                  try simp only [Act.put, List.setIfInBounds_toArray, List.set_cons_zero, List.set_cons_succ]
                  refine wpAnyZ_done (by kernel_rfl) ?_ _
                  clear hHeld
                  go_wp2_with fail
                  go_roundg (m.axes.length - (i + 1))
                  case measure => omega
                  case rel => exact ⟨i + 1, by go_num, by omega, rfl, HN2.out, HOW8.out, HB8.out⟩
            · have hii : ¬ (i : Int) < (m.axes.length : Int) := by omega
              have he : i = m.axes.length := by omega
              subst he
              have hall2 := HAL.out
              have hown2 := HOW.out
              rw [List.take_length] at hall2 hown2
              have HIC := Lib.hid (chTo_isC C m.axes 0 hall2)
              have hvl : (chTo C 0 m.axes).length = m.axes.length := isC_len HIC.out
              obtain ⟨vo, vc, rfl⟩ := hown2.form
              have HRW : Hid (EVar.Row (fun _ => True) wx (chTo C 0 m.axes) (.slice vo (chTo C 0 m.axes).length vc)) := hown2.row (fun _ _ => trivial) (fun _ _ => trivial)
              have EX := Lib.hid (EXC0.out _ _ wx (isC_vars HM.out HIC.out) HRW.out (HX3.out wx HBW.out))
              have HXB : Hid (∀ W', Below wx.heap.size wx W' → Below w3.heap.size w3 W') := fun W' hb => HBW.out.trans (hb.mono HBW.out.size)
              clear hall2 hown2 HAL HOW EXC0 HM HA HI HCU H255 HO HR3 HBX
              generalize chTo C 0 m.axes = V at *
              by_cases h0 : V.length = 0
              · have t0 : ((V.length : Int) == 0) = true := by rw [h0]; rfl
                have AW := Lib.hid (AW0.out wx (HX3.out wx HBW.out))
                clear h0 hvl EX HIC HRW HWX
                generalize V.length = nv at *
                as_aux_lemma =>
                go_wp2_with fail
                refine AW.out.mono ?_
                rintro e w5 ⟨rfl, hb⟩
                have H5 := Lib.hid (HX3.out w5 (HXB.out w5 hb))
                clear hb
                go_wp2_with fail
                go_ret
                exact ⟨rfl, H5.out⟩
              · have t0 : ((V.length : Int) == 0) = false := beq_eq_false_iff_ne.2 (by omega)
                have hne : m.axes ≠ [] := fun e => h0 (by rw [hvl, e]; rfl)
                have HW := Lib.hid (fun he W' hb => HWX.out V _ W' HIC.out hne he (HRW.out.below hb) (HXB.out W' hb))
                clear hvl h0 hne HIC HRW HWX
                generalize exclF m V = b at *
                generalize V.length = nv at *
                as_aux_lemma =>
                go_wp2_with fail
                refine EX.out.mono ?_
                rintro e w5 ⟨rfl, hb⟩
                have HB5 := Lib.hid hb
                have H5 := Lib.hid (HXB.out w5 hb)
                clear hb EX c0 c1 c2
                cases b
                · have WW := Lib.hid (HW.out rfl w5 HB5.out)
                  clear HW
                  as_aux_lemma =>
                  go_wp2_with fail
                  refine WW.out.mono ?_
                  rintro e w6 ⟨rfl, hb⟩
                  have H6 := Lib.hid (H5.out.trans (hb.mono H5.out.size))
                  have AW := Lib.hid (AW0.out w6 (HX3.out w6 H6.out))
                  clear hb AW0 WW
                  go_wp2_with fail
                  refine AW.out.mono ?_
                  rintro e w7 ⟨rfl, hb⟩
                  have H7 := Lib.hid (HX3.out w7 (H6.out.trans (hb.mono H6.out.size)))
                  clear hb
                  go_wp2_with fail
                  go_ret
                  exact ⟨rfl, H7.out⟩
                · have AW := Lib.hid (AW0.out w5 (HX3.out w5 H5.out))
                  clear HW AW0
                  as_aux_lemma =>
                  go_wp2_with fail
                  refine AW.out.mono ?_
                  rintro e w7 ⟨rfl, hb⟩
                  have H7 := Lib.hid (HX3.out w7 (H5.out.trans (hb.mono H5.out.size)))
                  clear hb
                  go_wp2_with fail
                  go_ret
                  exact ⟨rfl, H7.out⟩
end Go.Proofs.YtomecnncighkgaaGreatDoor
