/- The walk over the law's awake: the examples of the chapter hold. -/
import Derived.Test.YtbndgmbjfgmdnaaGreatDoorVa2
import Derived.Test.YtbndgmbjfgmdnaaGreatDoorVq9
import Derived.Test.YtbndgmbjfgmdnaaGreatDoorVq15m
import Derived.Test.YtbndgmbjfgmdnaaGreatDoorVq2
import Derived.Test.YtbndgmbjfgmdnaaGreatDoorVq3
import Derived.Test.YtbndgmbjfgmdnaaGreatDoorVp2
import Derived.Test.YtbndgmbjfgmdnaaGreatDoorVr3
namespace Go.Proofs.YtbndgmbjfgmdnaaGreatDoor
open Go.RowKit Go.Deep

abbrev LawPost (w : World) (e : Ending) (w' : World) : Prop := e = .returned (.bool true) ∧ Below w.heap.size w w'
/-- a slice literal of two things -/
theorem wpList_buildTwo {P : Program} {ops : Array Oper} {rest : List Oper} {o : Oper} {a : Act} {w : World} {Q : Exit → Act → World → Prop} (hg : o.guard = none) (t e : TypeId) (x y : Operand) (ho : o.op = .buildSlice t 2 #[(0, x), (1, y)]) (cx cy cells : Array Value) (ie : TypeInfo) (z : Value)
    (hu : P.underlying t = some (.slice e)) (hie : P.info? e = some ie) (hz : ie.zero = some z) (s : Nat) (hsz : ie.size = s) (hsmall : s ≤ 1000) (hpos : 0 < s)
    (hx : (a.eval x).cells = cx) (hy : (a.eval y).cells = cy) (hcx : cx.size = s) (hcy : cy.size = s) (hc : cx ++ cy = cells) (w1 : World) (hw : w.alloc (.cells cells e) = w1)
    (h : wpList P ops Q rest (a.put o.dst (.slice (some ⟨w.heap.size, 0, none⟩) 2 2)) w1) : wpList P ops Q (o :: rest) a w := by
  subst hw hc
  refine Go.wpList_buildSlice hg t e 2 #[(0, x), (1, y)] ho _ ie z hu hie hz (by rw [hsz]; omega) (by rw [hsz]; omega) ?_ h
  have e1 : (#[(0, x), (1, y)].map fun (i, x) => (i, a.eval x)).toList = [(0, a.eval x), (1, a.eval y)] := by simp
  rw [e1, hsz]
  have h := Great.fill_whole (s := s) hpos [a.eval x, a.eval y] ((Array.range (2 * s)).map (z.cells[· % z.cells.size]!)) (by
    intro v hv
    rcases List.mem_cons.1 hv with rfl | hv
    · rw [hx, hcx]
    · rw [List.mem_singleton.1 hv, hy, hcy]) (by simp)
  have e2 : (([a.eval x, a.eval y].zipIdx 0).map fun x => (x.2, x.1)) = [(0, a.eval x), (1, a.eval y)] := rfl
  rw [e2] at h
  rw [h]
  simp [hx, hy]
/-- things that fill a block -/
theorem ElemK.Row.ofBlock {α : Type} {E : ElemK α} {B : Nat → Prop} {w : World} {L : List α} (css : List (List Value)) {b : Nat} {e : TypeId} {fr : Nat × Nat} {n cap : Nat} (hk : w.heap[b]? = some (.cells css.flatten.toArray e fr)) (hl : css.length = L.length) (hn : n = L.length)
    (hR : ∀ (k : Nat) (h1 : k < L.length) (h2 : k < css.length), E.R B w L[k] css[k]) (hB : B b) (hc : L.length ≤ cap) : E.Row B w L (.slice (some ⟨b, 0, none⟩) n cap) := by
  subst hn
  refine .inr ⟨b, 0, cap, rfl, hB, (Array.getElem?_eq_some_iff.1 hk).1, hc, fun k hk2 => ⟨css[k]'(by omega), fun j u hu => ?_, hR k hk2 (by omega)⟩⟩
  rw [Nat.zero_add, cell_of_blk hk, List.getElem?_toArray]
  refine flatten_at css k (by omega) j u (fun c hc2 => ?_) hu
  obtain ⟨i, hi, rfl⟩ := List.getElem_of_mem hc2
  exact E.len (hR i (by omega) hi)
theorem vcellB_flat {B : Nat → Prop} {w : World} (k : Int) (b : Bool) (n : Int) (s : ByteArray) : VCellB B w (.mk k b n s [] []) [.int .i64 k, .bool b, .int .i64 n, .string s, .slice none 0 0, .slice none 0 0] :=
  vcellB_mk.2 ⟨_, _, rfl, .inl ⟨none, 0, rfl, rfl⟩, .inl ⟨none, 0, rfl, rfl⟩⟩
theorem aw_wf : aM.wf := by
  unfold aM mapT aS aT1 aT2
  rw [VT.wf, wfL_iff]
  refine ⟨by unfold isI; decide, by unfold isI; decide, by decide, by decide, by decide, fun x hx => ?_, fun t ht => ?_⟩
  · rcases List.mem_cons.1 hx with rfl | hx
    · decide
    · rw [List.mem_singleton.1 hx]; decide
  · rcases List.mem_cons.1 ht with rfl | ht
    · rw [VT.wf, wfL_iff]
      exact ⟨by unfold isI; decide, by unfold isI; decide, by decide, by decide, by decide, fun x hx => (by cases hx), fun x hx => (by cases hx)⟩
    · rw [List.mem_singleton.1 ht, VT.wf, wfL_iff]
      exact ⟨by unfold isI; decide, by unfold isI; decide, by decide, by decide, by decide, fun x hx => (by cases hx), fun x hx => (by cases hx)⟩
theorem flat_wf {k n : Int} {b : Bool} {s : ByteArray} (hk : isI k) (hn : isI n) (hs : s.size ≤ 9223372036854775807) : (VT.mk k b n s [] []).wf := by
  rw [VT.wf, wfL_iff]
  exact ⟨hk, hn, hs, by decide, by decide, fun x hx => (by cases hx), fun x hx => (by cases hx)⟩

set_option maxRecDepth 100000 in
set_option maxHeartbeats 6400000 in
theorem awake_any (w : World) (hp : Pow w) : Calls Tryz.prog 14 #[] w (LawPost w) := by
  have HP := Lib.hid hp
  obtain ⟨w1, hw1⟩ : ∃ w1, w.alloc (.cells #[.string sK10, .int .i64 2, .bool false, .int .i64 1, .string ⟨#[]⟩, .slice none 0 0, .slice none 0 0, .string sK2, .int .i64 3, .bool false, .int .i64 0, .string ⟨#[97]⟩, .slice none 0 0, .slice none 0 0] 55) = w1 := ⟨_, rfl⟩
  have hk1 : w1.heap[w.heap.size]? = some (.cells #[.string sK10, .int .i64 2, .bool false, .int .i64 1, .string ⟨#[]⟩, .slice none 0 0, .slice none 0 0, .string sK2, .int .i64 3, .bool false, .int .i64 0, .string ⟨#[97]⟩, .slice none 0 0, .slice none 0 0] 55 (0, 0)) := by rw [← hw1]; exact hp_new rfl
  have HB1 : Hid (Below w.heap.size w w1) := by unfold Hid; rw [← hw1]; exact (Below.refl _ w).alloc (Nat.le_refl _) _
  have hR : EVar.Row (fun _ => True) w1 aL (.slice (some ⟨w.heap.size, 0, none⟩) 2 2) :=
    ElemK.Row.ofBlock [[.string sK10, .int .i64 2, .bool false, .int .i64 1, .string ⟨#[]⟩, .slice none 0 0, .slice none 0 0], [.string sK2, .int .i64 3, .bool false, .int .i64 0, .string ⟨#[97]⟩, .slice none 0 0, .slice none 0 0]] hk1 rfl rfl (fun k h1 h2 => by
      rcases k with _ | _ | k
      · exact evar_mk (vcellB_flat 2 false 1 ⟨#[]⟩)
      · exact evar_mk (vcellB_flat 3 false 0 ⟨#[97]⟩)
      · simp at h2; omega) trivial (Nat.le_refl _)
  have MP : Hid (Calls Tryz.prog 21 #[.slice (some ⟨w.heap.size, 0, none⟩) 2 2] w1 fun e w' => ∃ lo lc ko kc, e = .returned (.tuple #[.agg #[.int .i64 5, .bool false, .int .i64 0, .string ⟨#[]⟩, .slice lo 2 lc, .slice ko 2 kc], .int .i64 0]) ∧ VAt w' (.agg #[.int .i64 5, .bool false, .int .i64 0, .string ⟨#[]⟩, .slice lo 2 lc, .slice ko 2 kc]) aM ∧ Below w1.heap.size w1 w') := (vmap_any aL _ _ (by decide) (fun x hx => by
      rcases List.mem_cons.1 hx with rfl | hx
      · exact flat_wf (by unfold isI; decide) (by unfold isI; decide) (by decide)
      · rw [List.mem_singleton.1 hx]; exact flat_wf (by unfold isI; decide) (by unfold isI; decide) (by decide)) (fun x hx => by
      rcases List.mem_cons.1 hx with rfl | hx
      · decide
      · rw [List.mem_singleton.1 hx]; decide) w1 hR).mono (by
    rintro e w' ⟨v, rfl, hv, hb⟩
    rw [aw_mapF] at hv
    rw [aw_mapE]
    obtain ⟨lv, kv, rfl, hs, hL⟩ := hv.open
    obtain ⟨ko, kc, rfl⟩ := hs.form
    obtain ⟨lo, lc, rfl⟩ := vlist_slice hL
    exact ⟨lo, lc, ko, kc, rfl, hv, hb⟩)
  obtain ⟨iR, hiR, hzR, hnR, hyR⟩ := Tryz.vinfoVar'
  have HIR := Lib.hid hiR
  have HW1 := Lib.hid hw1
  clear hk1 hR hiR hw1 hp
  go_enter Tryz.func14, Tryz.ntmps14
  go_wp2_with (first
    | (refine wpList_build2 rfl 55 _ _ rfl (.string sK10) (.agg #[.int .i64 2, .bool false, .int .i64 1, .string ⟨#[]⟩, .slice none 0 0, .slice none 0 0]) rfl rfl _ (Tryz.built_var _ _ _ _ _ _ _) ?_)
    | (refine wpList_build2 rfl 55 _ _ rfl (.string sK2) (.agg #[.int .i64 3, .bool false, .int .i64 0, .string ⟨#[97]⟩, .slice none 0 0, .slice none 0 0]) rfl rfl _ (Tryz.built_var _ _ _ _ _ _ _) ?_)
    | (refine wpList_buildTwo rfl 35 55 _ _ rfl #[.string sK10, .int .i64 2, .bool false, .int .i64 1, .string ⟨#[]⟩, .slice none 0 0, .slice none 0 0] #[.string sK2, .int .i64 3, .bool false, .int .i64 0, .string ⟨#[97]⟩, .slice none 0 0, .slice none 0 0] _ iR _ Tryz.underlying35 HIR.out hzR 7 hnR (by decide) (by decide) rfl rfl rfl rfl rfl w1 HW1.out ?_))
  refine MP.out.mono ?_
  rintro e w2 ⟨lo, lc, ko, kc, rfl, hv, hb⟩
  have HV2 := Lib.hid hv
  have HB2 := Lib.hid (HB1.out.trans (hb.mono HB1.out.size))
  obtain ⟨w3, hw3⟩ : ∃ w3, w2.alloc (.cells #[.int .i64 5, .bool false, .int .i64 0, .string ⟨#[]⟩, .slice lo 2 lc, .slice ko 2 kc] 25 (0, 0)) = w3 := ⟨_, rfl⟩
  have hk3 : w3.heap[w2.heap.size]? = some (.cells #[.int .i64 5, .bool false, .int .i64 0, .string ⟨#[]⟩, .slice lo 2 lc, .slice ko 2 kc] 25 (0, 0)) := by rw [← hw3]; exact hp_new rfl
  have hb23 : Below w2.heap.size w2 w3 := by rw [← hw3]; exact (Below.refl _ w2).alloc (Nat.le_refl _) _
  have HB3 := Lib.hid (HB2.out.trans (hb23.mono HB2.out.size))
  have HV3 := Lib.hid (HV2.out.below hb23)
  have HLT3 : Hid (w2.heap.size < w3.heap.size) := (Array.getElem?_eq_some_iff.1 hk3).1
  have HK3 := Lib.hid hk3
  obtain ⟨kb, kf, rfl, hkb, hq0, hq1⟩ : ∃ kb kf, ko = some ⟨kb, kf, none⟩ ∧ kb < w3.heap.size ∧ w3.cell? ⟨kb, kf + 0, none⟩ = some (.string sK2) ∧ w3.cell? ⟨kb, kf + 1, none⟩ = some (.string sK10) := by
    obtain ⟨lv, kv, e, hs, _⟩ := HV3.out.open
    have e5 : kv = .slice ko 2 kc := by
      have := congrArg (fun v : Value => v.cells[5]?) e
      simpa [Value.cells] using this.symm
    subst e5
    obtain ⟨b, o, e1, hb1, h1⟩ := StrsAt.at_ hs (k := 0) (show 0 < aM.keys.length by decide)
    obtain ⟨b', o', e2, _, h2⟩ := StrsAt.at_ hs (k := 1) (show 1 < aM.keys.length by decide)
    subst e1
    injection e2 with e2
    injection e2 with e2 e3
    subst e2 e3
    exact ⟨_, _, rfl, hb1, h1, h2⟩
  have HBX : Hid (∀ W' : World, Below w3.heap.size w3 W' → (W'.cell? ⟨w2.heap.size, 0, none⟩ = some (.int .i64 5) ∧ W'.cell? ⟨w2.heap.size, 1, none⟩ = some (.bool false) ∧ W'.cell? ⟨w2.heap.size, 2, none⟩ = some (.int .i64 0) ∧ W'.cell? ⟨w2.heap.size, 3, none⟩ = some (.string ⟨#[]⟩) ∧ W'.cell? ⟨w2.heap.size, 4, none⟩ = some (.slice lo 2 lc) ∧ W'.cell? ⟨w2.heap.size, 5, none⟩ = some (.slice (some ⟨kb, kf, none⟩) 2 kc)) ∧ W'.cell? ⟨kb, kf, none⟩ = some (.string sK2) ∧ W'.cell? ⟨kb, kf + 1, none⟩ = some (.string sK10) ∧ VAt W' (.agg #[.int .i64 5, .bool false, .int .i64 0, .string ⟨#[]⟩, .slice lo 2 lc, .slice (some ⟨kb, kf, none⟩) 2 kc]) aM ∧ Pow W') := fun W' hb => by
    have q := (hb.block _ HLT3.out).trans HK3.out
    exact ⟨⟨cell_of_blk q 0, cell_of_blk q 1, cell_of_blk q 2, cell_of_blk q 3, cell_of_blk q 4, cell_of_blk q 5⟩, (hb.cell (p := ⟨kb, kf, none⟩) hkb).trans hq0, (hb.cell (p := ⟨kb, kf + 1, none⟩) hkb).trans hq1, HV3.out.below hb, HP.out.below (HB3.out.trans (hb.mono HB3.out.size))⟩
  obtain ⟨⟨c0, c1, c2, c3, c4, c5⟩, q0, q1, hv3, hp3⟩ := HBX.out w3 (Below.refl _ _)
  have VA : Hid (Calls Tryz.prog 12 #[.agg #[.int .i64 5, .bool false, .int .i64 0, .string ⟨#[]⟩, .slice lo 2 lc, .slice (some ⟨kb, kf, none⟩) 2 kc]] w3 fun e w' => e = .returned (.int .i64 0) ∧ Below w3.heap.size w3 w') := (valid_any _ aM w3 hv3 aw_wf).mono (by
    rintro e w' ⟨rfl, hb⟩
    exact ⟨by rw [aw_valid]; rfl, hb⟩)
  have TX : Hid (∀ W' : World, Below w3.heap.size w3 W' → Calls Tryz.prog 27 #[.agg #[.int .i64 2, .bool false, .int .i64 (-5), .string ⟨#[]⟩, .slice none 0 0, .slice none 0 0]] W' fun e w' => e = .returned (.tuple #[.string ⟨#[45, 53]⟩, .int .i64 0]) ∧ Below W'.heap.size W' w') := fun W' hb => (text_any aT5 (flat_wf (by unfold isI; decide) (by unfold isI; decide) (by decide)) _ W' (HBX.out W' hb).2.2.2.2 ⟨_, rfl, vcell_mk.2 ⟨_, _, rfl, .inl ⟨none, 0, rfl, rfl⟩, .inl ⟨none, 0, rfl, rfl⟩⟩⟩).mono (by
    rintro e w' ⟨rfl, hb⟩
    exact ⟨by rw [aw_text]; rfl, hb⟩)
  have GT : Hid (∀ W' : World, Below w3.heap.size w3 W' → Calls Tryz.prog 25 #[.agg #[.int .i64 5, .bool false, .int .i64 0, .string ⟨#[]⟩, .slice lo 2 lc, .slice (some ⟨kb, kf, none⟩) 2 kc], .string sK10] W' fun e w' => ∃ a1 c1 a2 c2, e = .returned (.tuple #[.agg #[.int .i64 2, .bool false, .int .i64 1, .string ⟨#[]⟩, .slice a1 0 c1, .slice a2 0 c2], .bool true]) ∧ VAt w' (.agg #[.int .i64 2, .bool false, .int .i64 1, .string ⟨#[]⟩, .slice a1 0 c1, .slice a2 0 c2]) aT1 ∧ Below W'.heap.size W' w') := fun W' hb => (vget_any aM sK10 aw_wf (fit_valid aw_valid) _ W' (HBX.out W' hb).2.2.2.1).mono (by
    rintro e w' ⟨v, rfl, hv, hb⟩
    rw [aw_get] at hv ⊢
    have hv : VAt w' v aT1 := hv
    obtain ⟨lv, kv, rfl, hs, hL⟩ := hv.open
    obtain ⟨ko, kc, rfl⟩ := hs.form
    obtain ⟨lo, lc, rfl⟩ := vlist_slice hL
    exact ⟨lo, lc, ko, kc, rfl, hv, hb⟩)
  have VR : Hid (∀ W' : World, Below w3.heap.size w3 W' → Calls Tryz.prog 23 #[.agg #[.int .i64 5, .bool false, .int .i64 0, .string ⟨#[]⟩, .slice lo 2 lc, .slice (some ⟨kb, kf, none⟩) 2 kc]] W' fun e w' => ∃ vb vf vc, e = .returned (.tuple #[.slice (some ⟨vb, vf, none⟩) 2 vc, .int .i64 0]) ∧ w'.cell? ⟨vb, vf, none⟩ = some (.string sK2) ∧ vb < w'.heap.size ∧ Below W'.heap.size W' w') := fun W' hb => (vvars_any aM aw_wf _ W' (HBX.out W' hb).2.2.2.1).mono (by
    rintro e w' ⟨v, rfl, hv, hb⟩
    rw [aw_vars.1]
    rw [aw_vars.2] at hv
    obtain ⟨ao, cap, rfl⟩ := hv.form
    obtain ⟨bl, off, cs, rfl, _, hbl, hc, hR⟩ := hv.at (k := 0) (by decide)
    obtain ⟨c2, rfl, _⟩ := evar_cells hR
    have h0 := hc 0 _ rfl
    rw [Nat.zero_mul, Nat.add_zero] at h0
    exact ⟨bl, off, cap, rfl, h0, hbl, hb⟩)
  have SH : Hid (∀ W' : World, Below w3.heap.size w3 W' → Calls Tryz.prog 18 #[.agg #[.int .i64 5, .bool false, .int .i64 0, .string ⟨#[]⟩, .slice lo 2 lc, .slice (some ⟨kb, kf, none⟩) 2 kc]] W' fun e w' => e = .returned (.string ⟨#[123, 34, 107, 50, 34, 58, 32, 34, 97, 34, 44, 32, 34, 107, 49, 48, 34, 58, 32, 49, 125]⟩) ∧ Below W'.heap.size W' w') := fun W' hb => (show_any aM aw_wf (fun _ => by rw [aw_lit]; decide) _ W' (HBX.out W' hb).2.2.2.2 (HBX.out W' hb).2.2.2.1).mono (by
    rintro e w' ⟨rfl, hb⟩
    exact ⟨by rw [aw_show]; rfl, hb⟩)
  have EQ : Hid (∀ W' : World, Below w3.heap.size w3 W' → Calls Tryz.prog 17 #[.agg #[.int .i64 5, .bool false, .int .i64 0, .string ⟨#[]⟩, .slice lo 2 lc, .slice (some ⟨kb, kf, none⟩) 2 kc], .agg #[.int .i64 5, .bool false, .int .i64 0, .string ⟨#[]⟩, .slice lo 2 lc, .slice (some ⟨kb, kf, none⟩) 2 kc]] W' fun e w' => e = .returned (.bool true) ∧ Below W'.heap.size W' w') := fun W' hb => (equal_any aM aM aw_wf aw_wf _ _ W' (HBX.out W' hb).2.2.2.1 (HBX.out W' hb).2.2.2.1).mono (by
    rintro e w' ⟨rfl, hb⟩
    exact ⟨by rw [aw_self]; rfl, hb⟩)
  have HW3 := Lib.hid hw3
  clear hv hb MP hw3 hk3 hb23 hkb hq0 hq1 hv3 hp3
  go_upto_region 2 with fail
  rw [HW3.out]
  clear HW3
  as_aux_lemma =>
  go_wp2_with fail
  refine VA.out.mono ?_
  rintro e w4 ⟨rfl, hb⟩
  have HX4 := Lib.hid hb
  clear hb VA c0 c1 c2 c3 c4 c5 q0 q1
  as_aux_lemma =>
  go_wp2_with fail
  refine (TX.out w4 HX4.out).mono ?_
  rintro e w5 ⟨rfl, hb⟩
  have HX5 := Lib.hid (HX4.out.trans (hb.mono HX4.out.size))
  obtain ⟨⟨c0, c1, c2, c3, c4, c5⟩, _⟩ := HBX.out w5 HX5.out
  clear hb TX
  as_aux_lemma =>
  go_wp2_with fail
  refine (GT.out w5 HX5.out).mono ?_
  rintro e w6 ⟨a1, k1, a2, k2, rfl, hx, hb⟩
  obtain ⟨w7, hw7⟩ : ∃ w7, w6.alloc (.cells #[.int .i64 2, .bool false, .int .i64 1, .string ⟨#[]⟩, .slice a1 0 k1, .slice a2 0 k2] 25 (0, 0)) = w7 := ⟨_, rfl⟩
  have hk7 : w7.heap[w6.heap.size]? = some (.cells #[.int .i64 2, .bool false, .int .i64 1, .string ⟨#[]⟩, .slice a1 0 k1, .slice a2 0 k2] 25 (0, 0)) := by rw [← hw7]; exact hp_new rfl
  have hb67 : Below w6.heap.size w6 w7 := by rw [← hw7]; exact (Below.refl _ w6).alloc (Nat.le_refl _) _
  have HX6 := HX5.out.trans (hb.mono HX5.out.size)
  have HX7 := Lib.hid (HX6.trans (hb67.mono HX6.size))
  have HK7 := Lib.hid hk7
  have HLT7 : Hid (w6.heap.size < w7.heap.size) := (Array.getElem?_eq_some_iff.1 hk7).1
  have HVX := Lib.hid (hx.below hb67)
  have HW7 := Lib.hid hw7
  clear hb hk7 hb67 HX6 hx GT c0 c1 c2 c3 c4 c5 hw7
  go_upto_region 6 with fail
  rw [HW7.out]
  clear HW7
  obtain ⟨⟨c0, c1, c2, c3, c4, c5⟩, _⟩ := HBX.out w7 HX7.out
  as_aux_lemma =>
  go_wp2_with fail
  refine (VR.out w7 HX7.out).mono ?_
  rintro e w8 ⟨vb, vf, vc, rfl, hv0, hvb, hb⟩
  have HB78 := Lib.hid hb
  have HX8 := Lib.hid (HX7.out.trans (hb.mono HX7.out.size))
  have HK8 := Lib.hid ((hb.block _ HLT7.out).trans HK7.out)
  have x2 := cell_of_blk HK8.out 2
  clear hb c0 c1 c2 c3 c4 c5 VR
  have hcv : Sem.run Tryz.prog (convert 62 9 (.slice (some ⟨w8.heap.size, 0, none⟩) 1 1)) (w8.alloc (.cells #[.int .u8 34] 5)) = .ok (.string ⟨#[34]⟩) (w8.alloc (.cells #[.int .u8 34] 5)) := conv_new w8 [34]
  obtain ⟨w9, hw9⟩ : ∃ w9, w8.alloc (.cells #[.int .u8 34] 5) = w9 := ⟨_, rfl⟩
  have hb89 : Below w8.heap.size w8 w9 := by rw [← hw9]; exact (Below.refl _ w8).alloc (Nat.le_refl _) _
  have HX9 := Lib.hid (HX8.out.trans (hb89.mono HX8.out.size))
  have HB79 := Lib.hid (HB78.out.trans (hb89.mono HB78.out.size))
  have HW9 := Lib.hid hw9
  clear hw9 hb89
  as_aux_lemma =>
  go_upto_region 10 with fail
  rw [HW9.out]
  clear HW9 hcv hv0 x2
  obtain ⟨⟨c0, c1, c2, c3, c4, c5⟩, _⟩ := HBX.out w9 HX9.out
  go_wp2_with fail
  refine (SH.out w9 HX9.out).mono ?_
  rintro e w10 ⟨rfl, hb⟩
  have HX10 := Lib.hid (HX9.out.trans (hb.mono HX9.out.size))
  have HB710 := Lib.hid (HB79.out.trans (hb.mono HB79.out.size))
  have hk10 := (HB710.out.block _ HLT7.out).trans HK7.out
  have x0 := cell_of_blk hk10 0
  have x1 := cell_of_blk hk10 1
  have x2 := cell_of_blk hk10 2
  have x3 := cell_of_blk hk10 3
  have x4 := cell_of_blk hk10 4
  have x5 := cell_of_blk hk10 5
  clear hb hk10 c0 c1 c2 c3 c4 c5 SH
  obtain ⟨⟨c0, c1, c2, c3, c4, c5⟩, _, _, hvm, _⟩ := HBX.out w10 HX10.out
  have CP : Hid (Calls Tryz.prog 15 #[.agg #[.int .i64 2, .bool false, .int .i64 1, .string ⟨#[]⟩, .slice a1 0 k1, .slice a2 0 k2], .agg #[.int .i64 5, .bool false, .int .i64 0, .string ⟨#[]⟩, .slice lo 2 lc, .slice (some ⟨kb, kf, none⟩) 2 kc]] w10 fun e w' => e = .returned (.int .i64 (-1)) ∧ Below w10.heap.size w10 w') := (vcompare_any aT1 aM (flat_wf (by unfold isI; decide) (by unfold isI; decide) (by decide)) aw_wf _ _ w10 (HVX.out.below HB710.out) hvm).mono (by
    rintro e w' ⟨rfl, hb⟩
    exact ⟨by rw [aw_cmp], hb⟩)
  clear hvm
  go_wp2_with fail
  rotate_left
  · rename_i hne
    exact absurd (by decide +kernel) hne
  refine CP.out.mono ?_
  rintro e w11 ⟨rfl, hb⟩
  have HX11 := Lib.hid (HX10.out.trans (hb.mono HX10.out.size))
  clear hb CP x0 x1 x2 x3 x4 x5 c0 c1 c2 c3 c4 c5
  obtain ⟨⟨c0, c1, c2, c3, c4, c5⟩, _⟩ := HBX.out w11 HX11.out
  go_wp2_with fail
  refine (EQ.out w11 HX11.out).mono ?_
  rintro e w12 ⟨rfl, hb⟩
  have HX12 := Lib.hid (HB3.out.trans ((HX11.out.trans (hb.mono HX11.out.size)).mono HB3.out.size))
  clear hb EQ c0 c1 c2 c3 c4 c5
  go_wp2_with fail
  go_ret
  exact ⟨rfl, HX12.out⟩
end Go.Proofs.YtbndgmbjfgmdnaaGreatDoor
