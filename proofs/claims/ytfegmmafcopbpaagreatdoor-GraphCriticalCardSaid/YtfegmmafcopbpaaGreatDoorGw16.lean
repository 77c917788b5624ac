/- The walk over Critical of package graph: nothing where the graph or the costs are not as they should be. -/
import Derived.Test.YtfegmmafcopbpaaGreatDoorGw15
namespace Go.Proofs.YtfegmmafcopbpaaGreatDoor
open Go.RowKit Go.Shelf

attribute [local go_sem] Oper.semAt_some

def criticalF (G : Gr) (cs : List Int) : Nat × List Bs := if validF G ≠ 0 ∨ cs.length ≠ G.length ∨ cs.any badZ = true ∨ G.length = 0 then (0, []) else critF G (costN cs)
def CritPost (G : Gr) (cs : List Int) (w : World) (e : Ending) (w' : World) : Prop :=
  ∃ sv ss, e = .returned (.tuple #[intV (criticalF G cs).1, sv]) ∧ StrsAt w' sv ss ∧ ss.map (·.data.toList) = (criticalF G cs).2 ∧ Below w.heap.size w w'

set_option maxRecDepth 100000 in
set_option maxHeartbeats 6400000 in
theorem critical_none (nv cv : Value) (ns : List Nd) (cs : List Int) (m : Int) (hlen : 40 * ns.length ≤ 281474976710656) (hcl : cs.length = ns.length → cs.length ≤ 1000000000) (w : World) (hN : NdAt w nv ns) (hC : ZsAt w cv cs) (hm : w.cell? ⟨0, 0, none⟩ = some (.int .i64 m)) (hml : 0 < w.heap.size)
    (hno : validF (grO ns) ≠ 0 ∨ cs.length ≠ (grO ns).length ∨ cs.any badZ = true ∨ (grO ns).length = 0) :
    Calls Tryz.prog 27 #[nv, cv] w (CritPost (grO ns) cs w) := by
  have HCR : Hid (criticalF (grO ns) cs = (0, [])) := by unfold Hid criticalF; rw [if_pos hno]
  rw [grO_len] at hno
  obtain ⟨nao, ncap, rfl⟩ := hN.sl.form
  obtain ⟨cao, ccap, rfl⟩ := hC.form
  have VA : ∀ W, Below w.heap.size w W → Hid (Calls Tryz.prog 16 #[.slice nao ns.length ncap] W fun e w' => e = .returned (.int .i64 (validF (grO ns) : Nat)) ∧ Below W.heap.size W w') := fun W hW => valid_any _ ns m hlen W (hN.below hW) ((hW.cell (p := ⟨0, 0, none⟩) hml).trans hm) (Nat.lt_of_lt_of_le hml hW.size)
  have BA : cs.length = ns.length → ∀ W, Below w.heap.size w W → Hid (Calls Tryz.prog 55 #[.slice cao cs.length ccap, .func (.func 54) #[] #[]] W fun e w' => e = .returned (.bool (cs.any badZ)) ∧ ∃ q, w' = W.drewN q) := fun h2 W hW => bads_any _ cs (hcl h2) W (SlAt.below hC hW)
  have HB0 : Hid (Below w.heap.size w (w.alloc (.cells #[.slice cao cs.length ccap] 40 (0, 0)))) := (Below.refl _ w).alloc (Nat.le_refl _) _
  have HNO := Lib.hid hno
  clear hN hC hm hno
  refine (callsIn_wide (n := 10)).1 (callsIn_of_wp_marks Tryz.func27 rfl trivial (wpIn_wide.2 ?_))
  simp only [Tryz.ntmps27, List.size_toArray, List.length_cons, List.length_nil, Nat.reduceAdd, Nat.reduceSub, Array.replicate_succ, Array.replicate_zero, List.push_toArray, List.append_toArray, List.nil_append, List.cons_append]
  go_wp2_with fail
  refine (VA _ HB0.out).out.mono ?_
  rintro e w1 ⟨rfl, hb⟩
  have HB1 := Lib.hid (HB0.out.trans (hb.mono HB0.out.size))
  have hcbx : w1.cell? ⟨w.heap.size, 0, none⟩ = some (.slice cao cs.length ccap) := (hb.cell (p := ⟨w.heap.size, 0, none⟩) (by simp)).trans (by rw [cell_of_blk (hp_new rfl)]; rfl)
  clear hb VA
  by_cases h1 : validF (grO ns) = 0
  · rw [h1]
    by_cases h2 : cs.length = ns.length
    · have h2i : (((cs.length : Nat) : Int) != ((ns.length : Nat) : Int)) = false := by rw [h2]; simp
      have BA := BA h2
      cases hb : cs.any badZ with
      | true =>
        rw [hb] at BA
        clear h1 h2 hb HNO
        as_aux_lemma =>
        go_wp2_with fail
        refine (BA _ HB1.out).out.mono ?_
        rintro e w2 ⟨rfl, q, hq⟩
        have HB2 : Hid (Below w.heap.size w w2) := by unfold Hid; rw [hq]; exact ((Kp.of_below (X := fun _ => False) HB1.out).drewN q).below (Nat.le_refl _) (fun _ _ => id)
        clear hq
        go_wp2_with fail
        refine ⟨_, results_tmp2 rfl _ _ _, _, [], by rw [HCR.out]; rfl, .inl ⟨_, _, rfl, rfl⟩, by rw [HCR.out]; rfl, HB2.out⟩
      | false =>
        have h3 : ns.length = 0 := by
          rcases HNO.out with h | h | h | h
          · exact absurd h1 h
          · exact absurd h2 h
          · rw [hb] at h; cases h
          · exact h
        have h3i : (((ns.length : Nat) : Int) == 0) = true := by rw [h3]; rfl
        rw [hb] at BA
        clear h1 h2 hb HNO h3
        as_aux_lemma =>
        go_wp2_with fail
        refine (BA _ HB1.out).out.mono ?_
        rintro e w2 ⟨rfl, q, hq⟩
        have HB2 : Hid (Below w.heap.size w w2) := by unfold Hid; rw [hq]; exact ((Kp.of_below (X := fun _ => False) HB1.out).drewN q).below (Nat.le_refl _) (fun _ _ => id)
        clear hq
        go_wp2_with fail
        refine ⟨_, results_tmp2 rfl _ _ _, _, [], by rw [HCR.out]; rfl, .inl ⟨_, _, rfl, rfl⟩, by rw [HCR.out]; rfl, HB2.out⟩
    · have h2i : (((cs.length : Nat) : Int) != ((ns.length : Nat) : Int)) = true := by rw [bne_iff_ne]; omega
      clear h1 h2 HNO BA
      as_aux_lemma =>
      go_wp2_with fail
      refine ⟨_, results_tmp2 rfl _ _ _, _, [], by rw [HCR.out]; rfl, .inl ⟨_, _, rfl, rfl⟩, by rw [HCR.out]; rfl, HB1.out⟩
  · have h1i : (((validF (grO ns) : Nat) : Int) != 0) = true := by simp; exact h1
    clear h1 HNO BA
    generalize validF (grO ns) = vf at *
    as_aux_lemma =>
    go_wp2_with fail
    refine ⟨_, results_tmp2 rfl _ _ _, _, [], by rw [HCR.out]; rfl, .inl ⟨_, _, rfl, rfl⟩, by rw [HCR.out]; rfl, HB1.out⟩

theorem critical_any (nv cv : Value) (ns : List Nd) (cs : List Int) (m : Int) (hlen : 40 * ns.length ≤ 281474976710656) (hcl : cs.length = ns.length → cs.length ≤ 1000000000) (w : World) (hN : NdAt w nv ns) (hC : ZsAt w cv cs) (hm : w.cell? ⟨0, 0, none⟩ = some (.int .i64 m)) (hml : 0 < w.heap.size) :
    Calls Tryz.prog 27 #[nv, cv] w (CritPost (grO ns) cs w) := by
  by_cases hno : validF (grO ns) ≠ 0 ∨ cs.length ≠ (grO ns).length ∨ cs.any badZ = true ∨ (grO ns).length = 0
  · exact critical_none nv cv ns cs m hlen hcl w hN hC hm hml hno
  · have e : criticalF (grO ns) cs = critF (grO ns) (costN cs) := by unfold criticalF; rw [if_neg hno]
    simp only [not_or, Decidable.not_not, Bool.not_eq_true] at hno
    rw [grO_len] at hno
    refine (critical_go nv cv ns cs m hlen (hcl hno.2.1) w hN hC hm hml hno.1 hno.2.1 hno.2.2.1 hno.2.2.2).mono fun e' w' h => ?_
    unfold CritPost
    rw [e]
    exact h
end Go.Proofs.YtfegmmafcopbpaaGreatDoor
