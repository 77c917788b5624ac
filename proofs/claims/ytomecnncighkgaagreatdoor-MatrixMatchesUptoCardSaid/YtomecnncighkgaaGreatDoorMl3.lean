/- The walk over the law MatrixMatches. -/
import Derived.Test.YtomecnncighkgaaGreatDoorMl2
import Derived.Test.YtomecnncighkgaaGreatDoorMr2m
import Derived.Test.YtomecnncighkgaaGreatDoorMr9
namespace Go.Proofs.YtomecnncighkgaaGreatDoor
open Go.RowKit Go.Deep

set_option maxRecDepth 100000 in
set_option maxHeartbeats 6400000 in
theorem matches_law (V P : List VR) (v u : Value) (B C : Nat → Prop) (w : World) (hp : Pow w) (hV : EVar.Row B w V v) (hP : EVar.Row C w P u) (lV : V.length ≤ 281474976710656) (lP : P.length ≤ 281474976710656) (wV : ∀ x ∈ V, x.2.wf) (wP : ∀ x ∈ P, x.2.wf)
    (hS : V.length + P.length ≤ 300 → SufOk V) : Calls Tryz.prog 4 #[v, u] w (LawPost w) := by
  obtain ⟨vo, vc, rfl⟩ := hV.form
  obtain ⟨uo, uc, rfl⟩ := hP.form
  have AW : Hid (∀ W', Below w.heap.size w W' → Calls Tryz.prog 9 #[] W' (LawPost W')) := fun W' hb => awake_any W' (hp.below hb)
  have M1 : Hid (∀ W', Below w.heap.size w W' → Calls Tryz.prog 15 #[.slice vo V.length vc, .slice uo P.length uc] W' fun e w' => e = .returned (.bool (matF V P)) ∧ Below W'.heap.size W' w') := fun W' hb => matches_any V P _ _ B C (by omega) (by omega) wV wP W' (hV.below hb) (hP.below hb)
  have M2 : Hid (∀ W', Below w.heap.size w W' → Calls Tryz.prog 16 #[.slice vo V.length vc, .slice uo P.length uc] W' fun e w' => e = .returned (.bool (matF V P)) ∧ Below W'.heap.size W' w') := fun W' hb => rmatches_any V P _ _ B C (by omega) (by omega) wV wP W' (hV.below hb) (hP.below hb)
  have M3 : Hid (∀ W', Below w.heap.size w W' → Calls Tryz.prog 15 #[.slice vo V.length vc, .slice none 0 0] W' fun e w' => e = .returned (.bool true) ∧ Below W'.heap.size W' w') := fun W' hb => (matches_any V [] _ _ B C (by omega) (by decide) wV (fun x hx => (by cases hx)) W' (hV.below hb) .nil).mono (by
    rintro e w' ⟨rfl, hb⟩
    exact ⟨by rw [show matF V [] = true from rfl], hb⟩)
  have q1 : IntKind.i64.wrap ((V.length : Int) + (P.length : Int)) = (V.length : Int) + (P.length : Int) := IntWalk.i64_in _ (by omega)
  by_cases hbig : V.length + P.length ≤ 300
  · have hSV := hS hbig
    have S1 : Hid (∀ W', Below w.heap.size w W' → Calls Tryz.prog 17 #[.slice vo V.length vc] W' fun e w' => e = .returned (.string (bx (suffF V))) ∧ Below W'.heap.size W' w') := fun W' hb => msuffix_any V _ B hSV W' (hp.below hb) (hV.below hb)
    have S2 : Hid (∀ W', Below w.heap.size w W' → Calls Tryz.prog 18 #[.slice vo V.length vc] W' fun e w' => e = .returned (.string (bx (suffF V))) ∧ Below W'.heap.size W' w') := fun W' hb => rmsuffix_any V _ B hSV W' (hV.below hb)
    have t1 : decide ((300 : Int) < (V.length : Int) + (P.length : Int)) = false := decide_eq_false (by omega)
    have t1b : ¬ (300 : Int) < (V.length : Int) + (P.length : Int) := by omega
    have hR := Below.refl w.heap.size w
    have HR := Lib.hid hR
    generalize matF V P = b at *
    generalize bx (suffF V) = s at *
    have te : (b == b) = true := by simp
    have ts : (s.toList == s.toList) = true := by simp
    clear hS hSV hV hP hbig lV lP wV wP hp hR
    generalize V.length = n at *
    generalize P.length = k at *
    go_enter Tryz.func4, Tryz.ntmps4
    go_wp2_with fail
    refine (M1.out w HR.out).mono ?_
    rintro e w1 ⟨rfl, hb⟩
    have H1 := Lib.hid hb
    clear hb M1
    as_aux_lemma =>
    go_wp2_with fail
    refine (M2.out w1 H1.out).mono ?_
    rintro e w2 ⟨rfl, hb⟩
    have H2 := Lib.hid (H1.out.trans (hb.mono H1.out.size))
    clear hb M2
    as_aux_lemma =>
    go_wp2_with fail
    refine (S1.out w2 H2.out).mono ?_
    rintro e w3 ⟨rfl, hb⟩
    have H3 := Lib.hid (H2.out.trans (hb.mono H2.out.size))
    clear hb S1
    as_aux_lemma =>
    go_wp2_with fail
    refine (S2.out w3 H3.out).mono ?_
    rintro e w4 ⟨rfl, hb⟩
    have H4 := Lib.hid (H3.out.trans (hb.mono H3.out.size))
    clear hb S2
    as_aux_lemma =>
    go_wp2_with fail
    refine (M3.out w4 H4.out).mono ?_
    rintro e w5 ⟨rfl, hb⟩
    have H5 := Lib.hid (H4.out.trans (hb.mono H4.out.size))
    clear hb M3
    as_aux_lemma =>
    go_wp2_with fail
    refine (AW.out w5 H5.out).mono ?_
    rintro e w6 ⟨rfl, hb⟩
    have H6 := Lib.hid (H5.out.trans (hb.mono H5.out.size))
    clear hb AW
    as_aux_lemma =>
    go_wp2_with fail
    go_ret
    exact ⟨rfl, H6.out⟩
  · have t1 : (300 : Int) < (V.length : Int) + (P.length : Int) := by omega
    have HR := Lib.hid (Below.refl w.heap.size w)
    clear hS hV hP hbig lV lP wV wP hp M1 M2 M3
    generalize V.length = n at *
    generalize P.length = k at *
    go_enter Tryz.func4, Tryz.ntmps4
    go_wp2_with fail
    refine (AW.out w HR.out).mono ?_
    rintro e w1 ⟨rfl, hb⟩
    have H1 := Lib.hid hb
    clear hb AW
    go_wp2_with fail
    go_ret
    exact ⟨rfl, H1.out⟩
end Go.Proofs.YtomecnncighkgaaGreatDoor
