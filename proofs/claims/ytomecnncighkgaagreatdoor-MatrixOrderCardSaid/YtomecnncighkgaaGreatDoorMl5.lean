/- The walk over the law MatrixOrder. -/
import Derived.Test.YtomecnncighkgaaGreatDoorMl4
namespace Go.Proofs.YtomecnncighkgaaGreatDoor
open Go.RowKit Go.Deep

theorem turn_wf {m : MX} (h : m.wf) : (turnM m).wf := ⟨h.la, h.li, by show m.excl.reverse.length ≤ _; rw [List.length_reverse]; exact h.le, h.ax, h.inc, fun L hL => h.exc L (List.mem_reverse.1 hL)⟩
def TuRel (E : List (List VR)) (w3 : World) (f : Nat) (t5 t6 : Value) (wr : World) : Prop :=
  ∃ j : Nat, j ≤ E.length ∧ t6 = .int .i64 ((j : Int) - 1) ∧ f = j ∧ EVars.Own 36 w3.heap.size (fun _ => True) wr ((E.drop j).reverse) t5 ∧ Below w3.heap.size w3 wr
set_option maxRecDepth 100000 in
set_option maxHeartbeats 6400000 in
theorem order_law (m : MX) (v : Value) (w : World) (hp : Pow w) (h : MAt (fun b => b < w.heap.size) w v m) (hm : m.wf) (hf : m.fit) : Calls Tryz.prog 7 #[v] w (LawPost w) := by
  have AW0 : Hid (∀ W', Below w.heap.size w W' → Calls Tryz.prog 9 #[] W' (LawPost W')) := fun W' hb => awake_any W' (hp.below hb)
  have SM0 : Hid (∀ W', Below w.heap.size w W' → Calls Tryz.prog 8 #[v] W' fun e w' => e = .returned (.bool (smallF m)) ∧ Below W'.heap.size W' w') := fun W' hb => small_any m v _ hf W' (h.below hb)
  have VD0 : Hid (∀ W', Below w.heap.size w W' → Calls Tryz.prog 13 #[v] W' fun e w' => e = .returned (.int .i64 (validM m : Nat)) ∧ Below W'.heap.size W' w') := fun W' hb => mvalid_any m v _ hm W' (h.below hb)
  have EX0 : Hid (smallF m = true → ∀ W', Below w.heap.size w W' → Calls Tryz.prog 10 #[v] W' fun e w' => ∃ ro rc, e = .returned (.tuple #[.slice ro (expL m).length rc, .int .i64 ((expE m : Nat) : Int)]) ∧ EVars.Row (fun _ => True) w' (expL m) (.slice ro (expL m).length rc) ∧ Below W'.heap.size W' w') := fun hs W' hb => (mexpand_any m hm v W' ((h.below hb).low) (fun L hL => Nat.le_trans ((small_incl hs).1 L hL) (by decide))).mono fun e w' h => exp_open h
  have ET0 : Hid (smallF m = true → validM m = 0 → ∀ W' u, MAt (fun b => b < W'.heap.size) W' u (turnM m) → Calls Tryz.prog 10 #[u] W' fun e w' => ∃ ro rc, e = .returned (.tuple #[.slice ro (expL m).length rc, .int .i64 ((expE m : Nat) : Int)]) ∧ EVars.Row (fun _ => True) w' (expL m) (.slice ro (expL m).length rc) ∧ Below W'.heap.size W' w') := fun hs hv W' u hu => (mexpand_any (turnM m) (turn_wf hm) u W' hu (fun L hL => Nat.le_trans ((small_incl hs).1 L hL) (by decide))).mono fun e w' h => by
    have h1 := exp_open h
    rw [(turn_exp hv).1, (turn_exp hv).2] at h1
    exact h1
  have SA0 : Hid (∀ (W' : World) (u1 u2 : Value), EVars.Row (fun _ => True) W' (expL m) u1 → EVars.Row (fun _ => True) W' (expL m) u2 → Calls Tryz.prog 12 #[u1, u2] W' fun e w' => e = .returned (.bool true) ∧ Below W'.heap.size W' w') := fun W' u1 u2 h1 h2 => rsame_eq (expL m) u1 u2 _ _ (by have := (exp_wf hm).2; omega) (exp_wf hm).1 W' h1 h2
  obtain ⟨ao, ac, io, ic, eo, ec, rfl, hA, hI, hE⟩ := h
  have HSI : Hid (smallF m = true → m.excl.length ≤ 2000) := fun hs => (small_incl hs).2.2.1
  have MT : Hid (∀ W' u c, EAx.Row (fun b => b < w.heap.size) W' m.axes (.slice ao m.axes.length ac) → EVars.Row (fun b => b < w.heap.size) W' m.incl (.slice io m.incl.length ic) → EVars.Row (fun _ => True) W' m.excl.reverse (.slice u m.excl.length c) → MAt (fun b => b < W'.heap.size) W' (.agg #[.slice ao m.axes.length ac, .slice io m.incl.length ic, .slice u m.excl.length c]) (turnM m)) := fun W' u c h1 h2 h3 =>
    ⟨ao, ac, io, ic, u, c, by show _ = Value.agg #[_, _, .slice u m.excl.reverse.length c]; rw [List.length_reverse]; rfl, h1.lt.mono fun b hb => hb.2, h2.lt.mono fun b hb => hb.2, by show EVars.Row _ W' m.excl.reverse (.slice u m.excl.reverse.length c); rw [List.length_reverse]; exact h3.lt.mono fun b hb => hb.2⟩
  have HA := Lib.hid hA
  have HI := Lib.hid hI
  have HE := Lib.hid hE
  generalize m.axes = A at *
  generalize m.incl = I at *
  generalize m.excl = E at *
  generalize A.length = la at *
  generalize I.length = li at *
  generalize hvm : validM m = vm at *
  generalize expE m = em at *
  generalize expL m = L at *
  generalize smallF m = sm at *
  have le := hf.le
  clear hvm hp hm hf hA hI hE
  obtain ⟨w1, hw1⟩ : ∃ w1, w.alloc (.cells #[.slice ao la ac, .slice io li ic, .slice eo E.length ec] 25 (0, 0)) = w1 := ⟨_, rfl⟩
  have hk1 : w1.heap[w.heap.size]? = some (.cells #[.slice ao la ac, .slice io li ic, .slice eo E.length ec] 25 (0, 0)) := by rw [← hw1]; exact hp_new rfl
  have HB1 : Hid (Below w.heap.size w w1) := by unfold Hid; rw [← hw1]; exact (Below.refl _ w).alloc (Nat.le_refl _) _
  have HF : Hid (∀ W' : World, Below w1.heap.size w1 W' → W'.cell? ⟨w.heap.size, 0, none⟩ = some (.slice ao la ac) ∧ W'.cell? ⟨w.heap.size, 1, none⟩ = some (.slice io li ic) ∧ W'.cell? ⟨w.heap.size, 2, none⟩ = some (.slice eo E.length ec)) := fun W' hb => by
    have q := (hb.block _ (Array.getElem?_eq_some_iff.1 hk1).1).trans hk1
    exact ⟨cell_of_blk q 0, cell_of_blk q 1, cell_of_blk q 2⟩
  have HX : Hid (∀ W' : World, Below w1.heap.size w1 W' → Below w.heap.size w W') := fun W' hb => HB1.out.trans (hb.mono HB1.out.size)
  obtain ⟨c0, c1, c2⟩ := HF.out w1 (Below.refl _ _)
  have te : ((em : Int) == (em : Int)) = true := by simp
  have HW1 := Lib.hid hw1
  clear hk1 hw1
  go_enter Tryz.func7, Tryz.ntmps7
  go_upto_region 1 with fail
  rw [HW1.out]
  clear HW1
  go_wp2_with fail
  refine (SM0.out w1 HB1.out).mono ?_
  rintro e w2 ⟨rfl, hb⟩
  have H2 := Lib.hid hb
  clear hb c0 c1 c2
  cases sm
  · clear EX0 ET0 SA0 VD0 MT
    as_aux_lemma =>
    go_wp2_with fail
    refine (AW0.out w2 (HX.out w2 H2.out)).mono ?_
    rintro e w3 ⟨rfl, hb⟩
    have H3 := Lib.hid (HB1.out.trans ((H2.out.trans (hb.mono H2.out.size)).mono HB1.out.size))
    clear hb
    go_wp2_with fail
    go_ret
    exact ⟨rfl, H3.out⟩
  · obtain ⟨c0, c1, c2⟩ := HF.out w2 H2.out
    as_aux_lemma =>
    go_wp2_with fail
    refine (VD0.out w2 (HX.out w2 H2.out)).mono ?_
    rintro e w3 ⟨rfl, hb⟩
    have H3 := Lib.hid (H2.out.trans (hb.mono H2.out.size))
    clear hb c0 c1 c2 VD0
    by_cases hv : vm = 0
    · subst hv
      have ET1 := Lib.hid (ET0.out (by trivial) rfl)
      have hle := HSI.out (by trivial)
      have EX1 := Lib.hid (EX0.out (by trivial))
      clear ET0 EX0 HSI SM0
      obtain ⟨c0, c1, c2⟩ := HF.out w3 H3.out
      as_aux_lemma =>
      go_wp2_with fail
      refine (EX1.out w3 (HX.out w3 H3.out)).mono ?_
      rintro e w4 ⟨ro, rc, rfl, hr, hb⟩
      have HR4 := Lib.hid hr
      have H4 := Lib.hid (H3.out.trans (hb.mono H3.out.size))
      clear hr hb c0 c1 c2 EX1
      obtain ⟨c0, c1, c2⟩ := HF.out w4 H4.out
      have q1 : IntKind.i64.wrap ((E.length : Int) - 1) = (E.length : Int) - 1 := IntWalk.i64_in _ (by omega)
      obtain ⟨iV, hiV, hzV, hnV, hyV⟩ := Tryz.infoVars'
      have HIV := Lib.hid hiV
      clear hiV
      as_aux_lemma =>
      go_wp2_with fail
      clear c0 c1 c2
      go_loopg [5, 6] E.length (TuRel E w4)
      case atStart => exact ⟨E.length, Nat.le_refl _, rfl, rfl, by rw [List.drop_length]; exact .nil, Below.refl _ _⟩
      case round =>
        obtain ⟨wz, hwz⟩ : ∃ wz : World, wz = wr := ⟨_, rfl⟩
        subst hwz
        obtain ⟨j, hj, ht6, hfj, ho, hbel⟩ := hrel
        have HBC := Lib.hid hbel
        obtain ⟨oo, oc, rfl⟩ := ho.form
        have HOC := Lib.hid ho
        have HBC1 := Lib.hid (H4.out.trans (HBC.out.mono H4.out.size))
        obtain ⟨c0, c1, c2⟩ := HF.out wz HBC1.out
        clear ho hbel
        rcases j with _ | k
        · have e := ht6.trans (show Value.int .i64 (((0 : Nat) : Int) - 1) = .int .i64 (-1) from rfl)
          subst e hfj
          clear ht6
          rw [List.drop_zero, List.length_reverse] at HOC ⊢
          have HRT : Hid (EVars.Row (fun _ => True) wz E.reverse (.slice oo E.length oc)) := HOC.out.row (fun _ _ => trivial) (fun _ _ => trivial)
          have HM := Lib.hid (MT.out wz oo oc (HA.out.below (HX.out wz HBC1.out)) (HI.out.below (HX.out wz HBC1.out)) HRT.out)
          clear HOC HRT
          as_aux_lemma =>
          go_wp2_with fail
          refine (ET1.out wz _ HM.out).mono ?_
          rintro e w5 ⟨so, sc, rfl, hr, hb⟩
          have HS5 := Lib.hid hr
          have H5 := Lib.hid (HBC1.out.trans (hb.mono HBC1.out.size))
          have HR5 := Lib.hid ((HR4.out.below HBC.out).below hb)
          clear hr hb c0 c1 c2 ET1 HM HR4
          as_aux_lemma =>
          go_wp2_with fail
          refine (SA0.out w5 _ _ HR5.out HS5.out).mono ?_
          rintro e w6 ⟨rfl, hb⟩
          have H6 := Lib.hid (H5.out.trans (hb.mono H5.out.size))
          clear hb
          as_aux_lemma =>
          go_wp2_with fail
          refine (AW0.out w6 (HX.out w6 H6.out)).mono ?_
          rintro e w7 ⟨rfl, hb⟩
          have H7 := Lib.hid (H6.out.trans (hb.mono H6.out.size))
          clear hb
          go_wp2_with fail
          go_ret
          exact ⟨rfl, HX.out _ H7.out⟩
        · have e := ht6.trans (show Value.int .i64 (((k + 1 : Nat) : Int) - 1) = .int .i64 (k : Nat) from iv (by omega))
          subst e hfj
          clear ht6
          have hkl : k < E.length := by omega
          have hkk : (k : Int) < (E.length : Int) := by omega
          have hk0 : (0 : Int) ≤ (k : Int) := by omega
          have qk : IntKind.i64.wrap ((k : Int) - 1) = (k : Int) - 1 := IntWalk.i64_in _ (by omega)
          obtain ⟨be, oe, ae, ce, heo, hbe, y0, hre⟩ := evars_at (HE.out.below (HX.out wz HBC1.out)) hkl
          subst heo
          have HN : Hid ((E.drop k).reverse = (E.drop (k + 1)).reverse ++ [E[k]]) := by unfold Hid; rw [List.drop_eq_getElem_cons hkl, List.reverse_cons]
          have HLL : Hid ((E.drop (k + 1)).reverse.length ≤ 2000) := by unfold Hid; rw [List.length_reverse, List.length_drop]; omega
          generalize (E.drop (k + 1)).reverse = L0 at *
          have hsz : w4.heap.size ≤ wz.heap.size := HBC.out.size
          have hs4 : w.heap.size ≤ w4.heap.size := (HX.out w4 H4.out).size
          have hb8 : Below wz.heap.size wz (wz.alloc (.cells #[.slice ae E[k].length ce] 36 (0, 0))) := (Below.refl _ _).alloc (Nat.le_refl _) _
          have HO8 := Lib.hid (HOC.out.below hb8)
          have HX8 : Hid (EVars.R (fun q => True ∧ (Value.slice oo L0.length oc).ownBlock ≠ some q) (wz.alloc (.cells #[.slice ae E[k].length ce] 36 (0, 0))) E[k] [.slice ae E[k].length ce]) := evars_mk ((hre.below hb8).mono fun q hq => ⟨trivial, fun e => by
            have h1 := (HOC.out.low q e).1; omega⟩)
          have HB8 : Hid (Below w4.heap.size w4 (wz.alloc (.cells #[.slice ae E[k].length ce] 36 (0, 0)))) := HBC.out.trans (hb8.mono hsz)
          have hs8 := HB8.out.size
          clear hre hb8
          generalize E[k] = ek at *
          as_aux_lemma =>
          go_wp2_with (first
            | (refine wpList_build1 rfl 23 36 (.tmp 36) rfl #[.slice ae ek.length ce] iV _ Tryz.underlying23 HIV.out hzV 1 hnV (by decide) (by decide) rfl rfl ?_)
            | (refine wpList_own_push (E := EVars) rfl (.tmp 31) (.tmp 37) 23 rfl w4.heap.size 36 iV _ 24 Tryz.underlying23 HIV.out hzV hnV hyV rfl _ _ rfl HO8.out ek [.slice ae ek.length ce] HX8.out _ (0, 0) (hp_new rfl) rfl (by have := HLL.out; unfold maxLen; omega) (by have := HLL.out; omega) hs8 ?_))
          intro v8 w8 hown hgrow hpu
          obtain ⟨g8, p8, hv8⟩ := hpu.form
          subst hv8
          have HB9 : Hid (Below w4.heap.size w4 w8) := HB8.out.trans (below_grown hgrow hs8 (fun q e => (HO8.out.low q e).1))
          have HO9 := Lib.hid hown
          clear hown hgrow hpu HO8 HX8 HB8
          go_wp2_with fail
          go_roundg k
          case measure => omega
          case rel => exact ⟨k, by omega, rfl, rfl, by rw [HN.out]; exact HO9.out, HB9.out⟩
    · have tn : ((vm : Int) != 0) = true := by simp; omega
      have tn2 : ¬ (vm : Int) = 0 := by omega
      clear EX0 ET0 SA0 MT HSI SM0
      as_aux_lemma =>
      go_wp2_with fail
      refine (AW0.out w3 (HX.out w3 H3.out)).mono ?_
      rintro e w4 ⟨rfl, hb⟩
      have H4 := Lib.hid (H3.out.trans (hb.mono H3.out.size))
      clear hb
      go_wp2_with fail
      go_ret
      exact ⟨rfl, HX.out _ H4.out⟩
end Go.Proofs.YtomecnncighkgaaGreatDoor
