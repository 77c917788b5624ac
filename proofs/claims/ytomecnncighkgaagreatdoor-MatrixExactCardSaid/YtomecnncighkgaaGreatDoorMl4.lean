/- The walk over the law MatrixExpands. -/
import Derived.Test.YtomecnncighkgaaGreatDoorMl2
import Derived.Test.YtomecnncighkgaaGreatDoorMr8
import Derived.Test.YtomecnncighkgaaGreatDoorMr9
namespace Go.Proofs.YtomecnncighkgaaGreatDoor
open Go.RowKit Go.Deep

theorem exp_wf {m : MX} (hw : m.wf) : (∀ x ∈ expL m, wfVars x) ∧ (expL m).length ≤ 256 := by
  by_cases h : validM m = 0
  · by_cases h2 : manyF m.axes = true
    · rw [(exp_many h h2).2]; exact ⟨fun x hx => (by cases hx), by decide⟩
    · have h2 : manyF m.axes = false := by simpa using h2
      by_cases h3 : 256 < (outF m).length
      · rw [(exp_long h h2 h3).2]; exact ⟨fun x hx => (by cases hx), by decide⟩
      · rw [(exp_ok h h2 h3).2]
        refine ⟨?_, by omega⟩
        rw [← incK_all]
        exact inc_wf hw (mok h) _
  · rw [(exp_bad h).2]; exact ⟨fun x hx => (by cases hx), by decide⟩
theorem exp_open {m : MX} {w : World} {e : Ending} {w' : World} (h : XpPost m w e w') : ∃ ro rc, e = .returned (.tuple #[.slice ro (expL m).length rc, .int .i64 ((expE m : Nat) : Int)]) ∧ EVars.Row (fun _ => True) w' (expL m) (.slice ro (expL m).length rc) ∧ Below w.heap.size w w' := by
  obtain ⟨r, rfl, h1, h2⟩ := h
  obtain ⟨ro, rc, rfl⟩ := h1.form
  exact ⟨ro, rc, rfl, h1, h2⟩
theorem MAt.low {B : Nat → Prop} {w : World} {v : Value} {m : MX} (h : MAt B w v m) : MAt (fun b => b < w.heap.size) w v m := by
  obtain ⟨ao, ac, io, ic, eo, ec, rfl, h1, h2, h3⟩ := h
  exact ⟨ao, ac, io, ic, eo, ec, rfl, h1.lt.mono fun b hb => hb.2, h2.lt.mono fun b hb => hb.2, h3.lt.mono fun b hb => hb.2⟩
set_option maxRecDepth 100000 in
set_option maxHeartbeats 6400000 in
theorem expands_law (m : MX) (v : Value) (w : World) (hp : Pow w) (h : MAt (fun b => b < w.heap.size) w v m) (hm : m.wf) (hf : m.fit) : Calls Tryz.prog 3 #[v] w (LawPost w) := by
  have AW0 : Hid (∀ W', Below w.heap.size w W' → Calls Tryz.prog 9 #[] W' (LawPost W')) := fun W' hb => awake_any W' (hp.below hb)
  have SM0 : Hid (∀ W', Below w.heap.size w W' → Calls Tryz.prog 8 #[v] W' fun e w' => e = .returned (.bool (smallF m)) ∧ Below W'.heap.size W' w') := fun W' hb => small_any m v _ hf W' (h.below hb)
  have VD0 : Hid (∀ W', Below w.heap.size w W' → Calls Tryz.prog 13 #[v] W' fun e w' => e = .returned (.int .i64 (validM m : Nat)) ∧ Below W'.heap.size W' w') := fun W' hb => mvalid_any m v _ hm W' (h.below hb)
  have RV0 : Hid (∀ W', Below w.heap.size w W' → Calls Tryz.prog 14 #[v] W' fun e w' => e = .returned (.int .i64 (validM m : Nat)) ∧ Below W'.heap.size W' w') := fun W' hb => rmvalid_any m v _ hm W' (h.below hb)
  have EX0 : Hid (smallF m = true → ∀ W', Below w.heap.size w W' → Calls Tryz.prog 10 #[v] W' fun e w' => ∃ ro rc, e = .returned (.tuple #[.slice ro (expL m).length rc, .int .i64 ((expE m : Nat) : Int)]) ∧ EVars.Row (fun _ => True) w' (expL m) (.slice ro (expL m).length rc) ∧ Below W'.heap.size W' w') := fun hs W' hb => (mexpand_any m hm v W' ((h.below hb).low) (fun L hL => Nat.le_trans ((small_incl hs).1 L hL) (by decide))).mono fun e w' h => exp_open h
  have RX0 : Hid (smallF m = true → ∀ W', Below w.heap.size w W' → Calls Tryz.prog 11 #[v] W' fun e w' => ∃ ro rc, e = .returned (.tuple #[.slice ro (expL m).length rc, .int .i64 ((expE m : Nat) : Int)]) ∧ EVars.Row (fun _ => True) w' (expL m) (.slice ro (expL m).length rc) ∧ Below W'.heap.size W' w') := fun hs W' hb => (rmexpand_any m hm v W' ((h.below hb).low) (fun L hL => Nat.le_trans ((small_incl hs).1 L hL) (by decide))).mono fun e w' h => exp_open h
  have SA0 : Hid (∀ (W' : World) (u1 u2 : Value), EVars.Row (fun _ => True) W' (expL m) u1 → EVars.Row (fun _ => True) W' (expL m) u2 → Calls Tryz.prog 12 #[u1, u2] W' fun e w' => e = .returned (.bool true) ∧ Below W'.heap.size W' w') := fun W' u1 u2 h1 h2 => rsame_eq (expL m) u1 u2 _ _ (by have := (exp_wf hm).2; omega) (exp_wf hm).1 W' h1 h2
  obtain ⟨ao, ac, io, ic, eo, ec, rfl, hA, hI, hE⟩ := h
  generalize m.axes.length = la at *
  generalize m.incl.length = li at *
  generalize m.excl.length = le at *
  generalize validM m = vm at *
  generalize expE m = em at *
  generalize expL m = L at *
  generalize smallF m = sm at *
  clear hp hm hf hA hI hE
  obtain ⟨w1, hw1⟩ : ∃ w1, w.alloc (.cells #[.slice ao la ac, .slice io li ic, .slice eo le ec] 25 (0, 0)) = w1 := ⟨_, rfl⟩
  have hk1 : w1.heap[w.heap.size]? = some (.cells #[.slice ao la ac, .slice io li ic, .slice eo le ec] 25 (0, 0)) := by rw [← hw1]; exact hp_new rfl
  have HB1 : Hid (Below w.heap.size w w1) := by unfold Hid; rw [← hw1]; exact (Below.refl _ w).alloc (Nat.le_refl _) _
  have HF : Hid (∀ W' : World, Below w1.heap.size w1 W' → W'.cell? ⟨w.heap.size, 0, none⟩ = some (.slice ao la ac) ∧ W'.cell? ⟨w.heap.size, 1, none⟩ = some (.slice io li ic) ∧ W'.cell? ⟨w.heap.size, 2, none⟩ = some (.slice eo le ec) ∧ Below w1.heap.size w1 W') := fun W' hb => by
    have q := (hb.block _ (Array.getElem?_eq_some_iff.1 hk1).1).trans hk1
    exact ⟨cell_of_blk q 0, cell_of_blk q 1, cell_of_blk q 2, hb⟩
  have HX : Hid (∀ W' : World, Below w1.heap.size w1 W' → Below w.heap.size w W') := fun W' hb => HB1.out.trans (hb.mono HB1.out.size)
  obtain ⟨c0, c1, c2, _⟩ := HF.out w1 (Below.refl _ _)
  have te : ((em : Int) == (em : Int)) = true := by simp
  have tv : ((vm : Int) == (vm : Int)) = true := by simp
  have HW1 := Lib.hid hw1
  clear hk1 hw1
  go_enter Tryz.func3, Tryz.ntmps3
  go_upto_region 1 with fail
  rw [HW1.out]
  clear HW1
  go_wp2_with fail
  refine (SM0.out w1 HB1.out).mono ?_
  rintro e w2 ⟨rfl, hb⟩
  have H2 := Lib.hid hb
  clear hb c0 c1 c2
  cases sm
  · clear EX0 RX0 SA0 VD0 RV0
    as_aux_lemma =>
    go_wp2_with fail
    refine (AW0.out w2 (HX.out w2 H2.out)).mono ?_
    rintro e w3 ⟨rfl, hb⟩
    have H3 := Lib.hid (HB1.out.trans ((H2.out.trans (hb.mono H2.out.size)).mono HB1.out.size))
    clear hb
    go_wp2_with fail
    go_ret
    exact ⟨rfl, H3.out⟩
  · obtain ⟨c0, c1, c2, _⟩ := HF.out w2 H2.out
    as_aux_lemma =>
    go_wp2_with fail
    refine (EX0.out (by trivial) w2 (HX.out w2 H2.out)).mono ?_
    rintro e w3 ⟨ro, rc, rfl, hr, hb⟩
    have HR3 := Lib.hid hr
    have H3 := Lib.hid (H2.out.trans (hb.mono H2.out.size))
    clear hr hb c0 c1 c2 EX0
    obtain ⟨c0, c1, c2, _⟩ := HF.out w3 H3.out
    as_aux_lemma =>
    go_wp2_with fail
    refine (RX0.out (by trivial) w3 (HX.out w3 H3.out)).mono ?_
    rintro e w4 ⟨so, sc, rfl, hr, hb⟩
    have HS4 := Lib.hid hr
    have HR4 := Lib.hid (HR3.out.below hb)
    have H4 := Lib.hid (H3.out.trans (hb.mono H3.out.size))
    clear hr hb c0 c1 c2 RX0 HR3
    have SA4 : Hid (∀ W' : World, Below w4.heap.size w4 W' → Calls Tryz.prog 12 #[.slice ro L.length rc, .slice so L.length sc] W' fun e w' => e = .returned (.bool true) ∧ Below W'.heap.size W' w') := fun W' hb => SA0.out W' _ _ (HR4.out.below hb) (HS4.out.below hb)
    clear SM0 SA0 HR4 HS4
    as_aux_lemma =>
    go_upto_region 5 with fail
    have HF5 : Hid (∀ W' : World, Below w4.heap.size w4 W' → W'.cell? ⟨w.heap.size, 0, none⟩ = some (.slice ao la ac) ∧ W'.cell? ⟨w.heap.size, 1, none⟩ = some (.slice io li ic) ∧ W'.cell? ⟨w.heap.size, 2, none⟩ = some (.slice eo le ec) ∧ Below w4.heap.size w4 W') := fun W' hb => by
      obtain ⟨q0, q1, q2, _⟩ := HF.out W' (H4.out.trans (hb.mono H4.out.size))
      exact ⟨q0, q1, q2, hb⟩
    have HD := Lib.hid (HF5.out _ (Below.refl _ w4).drew)
    have HX5 : Hid (∀ W' : World, Below w4.heap.size w4 W' → Below w.heap.size w W') := fun W' hb => HX.out W' (H4.out.trans (hb.mono H4.out.size))
    have SA5 : Hid (∀ W' : World, W'.cell? ⟨w.heap.size, 0, none⟩ = some (.slice ao la ac) ∧ W'.cell? ⟨w.heap.size, 1, none⟩ = some (.slice io li ic) ∧ W'.cell? ⟨w.heap.size, 2, none⟩ = some (.slice eo le ec) ∧ Below w4.heap.size w4 W' → Calls Tryz.prog 12 #[.slice ro L.length rc, .slice so L.length sc] W' fun e w' => e = .returned (.bool true) ∧ w'.cell? ⟨w.heap.size, 0, none⟩ = some (.slice ao la ac) ∧ w'.cell? ⟨w.heap.size, 1, none⟩ = some (.slice io li ic) ∧ w'.cell? ⟨w.heap.size, 2, none⟩ = some (.slice eo le ec) ∧ Below w4.heap.size w4 w') := fun W' hS => (SA4.out W' hS.2.2.2).mono (by
      rintro e w' ⟨rfl, hb⟩
      exact ⟨rfl, HF5.out w' (hS.2.2.2.trans (hb.mono hS.2.2.2.size))⟩)
    have VD5 : Hid (∀ W' : World, W'.cell? ⟨w.heap.size, 0, none⟩ = some (.slice ao la ac) ∧ W'.cell? ⟨w.heap.size, 1, none⟩ = some (.slice io li ic) ∧ W'.cell? ⟨w.heap.size, 2, none⟩ = some (.slice eo le ec) ∧ Below w4.heap.size w4 W' → Calls Tryz.prog 13 #[.agg #[.slice ao la ac, .slice io li ic, .slice eo le ec]] W' fun e w' => e = .returned (.int .i64 (vm : Nat)) ∧ w'.cell? ⟨w.heap.size, 0, none⟩ = some (.slice ao la ac) ∧ w'.cell? ⟨w.heap.size, 1, none⟩ = some (.slice io li ic) ∧ w'.cell? ⟨w.heap.size, 2, none⟩ = some (.slice eo le ec) ∧ Below w4.heap.size w4 w') := fun W' hS => (VD0.out W' (HX5.out W' hS.2.2.2)).mono (by
      rintro e w' ⟨rfl, hb⟩
      exact ⟨rfl, HF5.out w' (hS.2.2.2.trans (hb.mono hS.2.2.2.size))⟩)
    have RV5 : Hid (∀ W' : World, W'.cell? ⟨w.heap.size, 0, none⟩ = some (.slice ao la ac) ∧ W'.cell? ⟨w.heap.size, 1, none⟩ = some (.slice io li ic) ∧ W'.cell? ⟨w.heap.size, 2, none⟩ = some (.slice eo le ec) ∧ Below w4.heap.size w4 W' → Calls Tryz.prog 14 #[.agg #[.slice ao la ac, .slice io li ic, .slice eo le ec]] W' fun e w' => e = .returned (.int .i64 (vm : Nat)) ∧ w'.cell? ⟨w.heap.size, 0, none⟩ = some (.slice ao la ac) ∧ w'.cell? ⟨w.heap.size, 1, none⟩ = some (.slice io li ic) ∧ w'.cell? ⟨w.heap.size, 2, none⟩ = some (.slice eo le ec) ∧ Below w4.heap.size w4 w') := fun W' hS => (RV0.out W' (HX5.out W' hS.2.2.2)).mono (by
      rintro e w' ⟨rfl, hb⟩
      exact ⟨rfl, HF5.out w' (hS.2.2.2.trans (hb.mono hS.2.2.2.size))⟩)
    have AW5 : Hid (∀ W' : World, W'.cell? ⟨w.heap.size, 0, none⟩ = some (.slice ao la ac) ∧ W'.cell? ⟨w.heap.size, 1, none⟩ = some (.slice io li ic) ∧ W'.cell? ⟨w.heap.size, 2, none⟩ = some (.slice eo le ec) ∧ Below w4.heap.size w4 W' → Calls Tryz.prog 9 #[] W' fun e w' => e = .returned (.bool true) ∧ w'.cell? ⟨w.heap.size, 0, none⟩ = some (.slice ao la ac) ∧ w'.cell? ⟨w.heap.size, 1, none⟩ = some (.slice io li ic) ∧ w'.cell? ⟨w.heap.size, 2, none⟩ = some (.slice eo le ec) ∧ Below w4.heap.size w4 w') := fun W' hS => (AW0.out W' (HX5.out W' hS.2.2.2)).mono (by
      rintro e w' ⟨rfl, hb⟩
      exact ⟨rfl, HF5.out w' (hS.2.2.2.trans (hb.mono hS.2.2.2.size))⟩)
    clear VD0 RV0 AW0
    go_region_held3 (fun W' : World => W'.cell? ⟨w.heap.size, 0, none⟩ = some (.slice ao la ac) ∧ W'.cell? ⟨w.heap.size, 1, none⟩ = some (.slice io li ic) ∧ W'.cell? ⟨w.heap.size, 2, none⟩ = some (.slice eo le ec) ∧ Below w4.heap.size w4 W') (first | exact HD.out | assumption | go_keep)
      (first
        | (go_at_call 12; refine (SA5.out _ (by assumption)).mono ?_; rintro e wA0 ⟨rfl, hSA0⟩)
        | (go_at_call 13; refine (VD5.out _ (by assumption)).mono ?_; rintro e wA1 ⟨rfl, hSA1⟩)
        | (go_at_call 14; refine (RV5.out _ (by assumption)).mono ?_; rintro e wA2 ⟨rfl, hSA2⟩)
        | (go_at_call 9; refine (AW5.out _ (by assumption)).mono ?_; rintro e wA3 ⟨rfl, hSA3⟩))

    go_wp2_with fail
    go_ret
    exact ⟨rfl, HX5.out _ hSA3.2.2.2⟩
end Go.Proofs.YtomecnncighkgaaGreatDoor
