/- The walk over matrix.Expand. -/
import Derived.Test.YtomecnncighkgaaGreatDoorMm0
import Derived.Test.YtomecnncighkgaaGreatDoorMw5
import Derived.Test.YtomecnncighkgaaGreatDoorMw6
import Derived.Test.YtomecnncighkgaaGreatDoorVa3
namespace Go.Proofs.YtomecnncighkgaaGreatDoor
open Go.RowKit Go.Shelf Go.Deep

attribute [local go_sem] Oper.semAt_some

def XpPost (m : MX) (w : World) (e : Ending) (w' : World) : Prop :=
  ∃ r, e = .returned (.tuple #[r, .int .i64 ((expE m : Nat) : Int)]) ∧ EVars.Row (fun _ => True) w' (expL m) r ∧ Below w.heap.size w w'
def XiRel (m : MX) (Wa : World) (bv : Value) (rec : Loop) (ab : Nat) (f : Nat) (t34 : Value) (wr : World) : Prop :=
  ∃ i : Nat, t34 = .int .i64 (i : Nat) ∧ i ≤ m.incl.length ∧ f = m.incl.length - i ∧ XM Wa bv rec ab (incK m i) wr
/-- what the rounds keep -/
def XJ (m : MX) (Wa Wc : World) (bv : Value) (rec : Loop) (ab : Nat) (R : List (List VR)) (W : World) : Prop :=
  Wc.heap.size ≤ ab ∧ ∃ D, combsF m.axes = D ++ R ∧ XM Wa bv rec ab (outK m D) W

set_option maxRecDepth 100000 in
set_option maxHeartbeats 6400000 in
theorem mexpand_any (m : MX) (hm : m.wf) (v : Value) (w : World) (h : MAt (fun b => b < w.heap.size) w v m) (hsm : ∀ L ∈ m.incl, L.length ≤ 1000000) : Calls Tryz.prog 10 #[v] w (XpPost m w) := by
  obtain ⟨ao, ac, io, ic, eo, ec, rfl, hA, hI, hE⟩ := h
  obtain ⟨W1, hW1⟩ : ∃ W1, w.alloc (.cells #[.slice ao m.axes.length ac, .slice io m.incl.length ic, .slice eo m.excl.length ec] 25 (0, 0)) = W1 := ⟨_, rfl⟩
  have hk1 : W1.heap[w.heap.size]? = some (.cells #[.slice ao m.axes.length ac, .slice io m.incl.length ic, .slice eo m.excl.length ec] 25 (0, 0)) := by rw [← hW1]; exact hp_new rfl
  have hb1 : Below w.heap.size w W1 := by rw [← hW1]; exact (Below.refl _ w).alloc (Nat.le_refl _) _
  have HLT : Hid (w.heap.size < W1.heap.size) := (Array.getElem?_eq_some_iff.1 hk1).1
  have HK1 := Lib.hid hk1
  have HBX : Hid (∀ W', Below W1.heap.size W1 W' → W'.cell? ⟨w.heap.size, 0, none⟩ = some (.slice ao m.axes.length ac) ∧ W'.cell? ⟨w.heap.size, 1, none⟩ = some (.slice io m.incl.length ic) ∧ W'.cell? ⟨w.heap.size, 2, none⟩ = some (.slice eo m.excl.length ec)) := fun W' hb => by
    have q := (hb.block _ HLT.out).trans HK1.out
    exact ⟨cell_of_blk q 0, cell_of_blk q 1, cell_of_blk q 2⟩
  have HA := Lib.hid hA
  have HI := Lib.hid hI
  have HE := Lib.hid hE
  have HM := Lib.hid hm
  have HSM := Lib.hid hsm
  have HB0 := Lib.hid hb1
  have VC := Lib.hid (mvalid_any m _ (fun b => b < w.heap.size) hm W1 ⟨ao, ac, io, ic, eo, ec, rfl, hA.below hb1, hI.below hb1, hE.below hb1⟩)
  obtain ⟨p0, p1, p2⟩ := HBX.out W1 (Below.refl _ _)
  have hwz : w.heap.size < W1.heap.size := HLT.out
  clear hA hI hE hm hsm hb1 hk1 HK1
  refine (callsIn_wide (n := 10)).1 (callsIn_of_wp_marks Tryz.func10 rfl trivial (wpIn_wide.2 ?_) rfl)
  simp only [Tryz.ntmps10, List.size_toArray, List.length_cons, List.length_nil, Nat.reduceAdd, Nat.reduceSub, Array.replicate_succ, Array.replicate_zero, List.push_toArray, List.append_toArray, List.nil_append, List.cons_append]
  go_wp2_with fail
  refine VC.out.mono ?_
  rintro e w3 ⟨rfl, hb3⟩
  have HB3 := Lib.hid hb3
  clear VC hb3 hW1 p0 p1 p2
  by_cases hv : validM m = 0
  · have t1b : (((validM m : Nat) : Int) == 0) = true := by rw [hv]; rfl
    have t1 : (((validM m : Nat) : Int) != 0) = false := by rw [hv]; rfl
    have HOK := Lib.hid (mok hv)
    have HEM := Lib.hid (fun h => exp_many hv h)
    have HEL := Lib.hid (fun h h2 => exp_long hv h h2)
    have HEO := Lib.hid (fun h h2 => exp_ok hv h h2)
    generalize validM m = ve at *
    clear hv
    have CM := Lib.hid (many_any m.axes (.slice ao m.axes.length ac) (fun b => b < w.heap.size) HOK.out.av HM.out.la w3 (HA.out.below (HB0.out.trans (HB3.out.mono HB0.out.size))))
    obtain ⟨p0, p1, p2⟩ := HBX.out w3 HB3.out
    go_wp2_with fail
    refine CM.out.mono ?_
    rintro e w4 ⟨rfl, hb4⟩
    have HB4 := Lib.hid (HB3.out.trans (hb4.mono HB3.out.size))
    clear CM hb4 p0 p1 p2
    cases hmn : manyF m.axes with
    | true =>
      have HN := Lib.hid (HEM.out hmn)
      clear hmn HEM HEL HEO
      go_wp2_with fail
      (try simp only [Exit.inBlock, Exit.then]); refine ⟨_, results_tmp2 rfl _ _ _, ?_⟩
      exact ⟨_, by rw [HN.out.1] <;> rfl, by rw [HN.out.2]; exact .nil, HB0.out.trans (HB4.out.mono HB0.out.size)⟩
    | false =>
      have HMN := Lib.hid hmn
      have HBX4 : Hid (∀ W', Below w4.heap.size w4 W' → W'.cell? ⟨w.heap.size, 0, none⟩ = some (.slice ao m.axes.length ac) ∧ W'.cell? ⟨w.heap.size, 1, none⟩ = some (.slice io m.incl.length ic) ∧ W'.cell? ⟨w.heap.size, 2, none⟩ = some (.slice eo m.excl.length ec)) := fun W' hb => HBX.out W' (HB4.out.trans (hb.mono HB4.out.size))
      have HB4w : Hid (Below w.heap.size w w4) := HB0.out.trans (HB4.out.mono HB0.out.size)
      have hws4 : w.heap.size < w4.heap.size := Nat.lt_of_lt_of_le hwz HB4.out.size
      obtain ⟨Wx, hWx⟩ : ∃ Wx, w4.alloc (.cells #[.slice none 0 0] 23 (0, 0)) = Wx := ⟨_, rfl⟩
      have hsx : Wx.heap.size = w4.heap.size + 1 := by rw [← hWx]; simp
      have hkx : Wx.heap[w4.heap.size]? = some (.cells #[.slice none 0 0] 23 (0, 0)) := by rw [← hWx]; exact hp_new rfl
      have hbx : Below w4.heap.size w4 Wx := by rw [← hWx]; exact (Below.refl _ w4).alloc (Nat.le_refl _) _
      obtain ⟨p0, p1, p2⟩ := HBX.out Wx (HB4.out.trans (hbx.mono HB4.out.size))
      clear hmn HEM
      go_wp2_with fail
      refine (comb_any ao m.axes.length ac Wx).mono ?_
      rintro e w5 ⟨rfl, rfl⟩
      obtain ⟨Wy, hWy⟩ : ∃ Wy, Wx.alloc (.cells #[.slice ao m.axes.length ac] 22 (0, 0)) = Wy := ⟨_, rfl⟩
      have hsy : Wy.heap.size = w4.heap.size + 2 := by rw [← hWy]; simp; omega
      have hky : Wy.heap[w4.heap.size + 1]? = some (.cells #[.slice ao m.axes.length ac] 22 (0, 0)) := by rw [← hWy]; exact hp_new (by omega)
      have hkx2 : Wy.heap[w4.heap.size]? = some (.cells #[.slice none 0 0] 23 (0, 0)) := by rw [← hWy]; exact (hp_old (by omega)).trans hkx
      have hby : Below w4.heap.size w4 Wy := by rw [← hWy]; exact hbx.alloc hbx.size _
      rw [hWy, hsx]
      clear hWy hWx hkx hbx p0 p1 p2
      go_wp2_with fail
      refine wpIn_wide.1 (range_enter (n := 10) 56 #[.pointer (some ⟨w4.heap.size + 1, 0, none⟩)] rfl comb1Enters ?_)
      intro fn Wc hb1 hs1 hd1 hl1
      rw [hsy] at hb1 hs1 hd1 hl1 ⊢
      obtain ⟨rec, hl1', hrec⟩ : ∃ rec, Wc.heap[w4.heap.size + 2 + 1]? = some (.loop rec) ∧ rec = _ := ⟨_, hl1, rfl⟩
      have HREC := Lib.hid hrec
      have hbc : Below w4.heap.size w4 Wc := hby.trans (hb1.mono (by omega))
      have hxm : ∀ ab, XM w4 (.slice ao m.axes.length ac) rec ab [] Wc := fun ab =>
        ⟨⟨_, (hb1.block _ (by omega)).trans hkx2, .nil, fun e => by cases e⟩, (hb1.block _ (by omega)).trans hky, hd1, hl1', hbc⟩
      have HXM := Lib.hid hxm
      have HSC : Hid (Wc.heap.size = w4.heap.size + 4) := hs1
      have hA4 : EAx.Row (fun b => b < w4.heap.size) w4 m.axes (.slice ao m.axes.length ac) := (HA.out.below HB4w.out).mono fun b hb => by omega
      clear hl1 hrec hb1 hd1 hl1' hkx2 hky hby hsy hsx hs1 hxm hbc
      have hJ : CombJ m.axes (w4.heap.size + 3) (w4.heap.size + 1) w4 Wc ao ac (XJ m w4 Wc (.slice ao m.axes.length ac) rec) := {
        h0 := fun ab R W ⟨_, D, _, hx⟩ => hx.bl
        h1 := fun ab R W ⟨_, D, _, hx⟩ => hx.ax
        hG := fun ab R W W' ⟨ha, D, hD, hx⟩ hb => ⟨ha, D, hD, hx.next hb⟩
        hS := fun ab R W W' o hab ⟨ha, D, hD, hx⟩ hw => ⟨ha, D, hD, hx.digits (by have := HSC.out; omega) hw⟩
        hI := fun ab W hab hb => ⟨hab, [], rfl, (HXM.out ab).next hb⟩
        hY := ?hY }
      case hY =>
        intro ab c R Wf W v hab habl hj hbW hrow
        obtain ⟨_, D, hD, hxf⟩ := hj
        have hx := hxf.next hbW
        have hsc := HSC.out
        have hcm : c ∈ combsF m.axes := by rw [hD]; simp
        obtain ⟨hcw, hc8, hcn⟩ := comb_wf HM.out HOK.out hcm
        obtain ⟨vo, vc, rfl⟩ := hrow.form
        have hra := congrArg Loop.assign HREC.out
        have hrb := congrArg Loop.body HREC.out
        have hrt := congrArg Loop.tmps HREC.out
        have hrp := congrArg Loop.params HREC.out
        have hrs := congrArg Loop.state HREC.out
        have hre := congrArg Loop.pending HREC.out
        dsimp only at hra hrb hrt hrp hrs hre
        have HRS : Hid (rec.state = .ready ∧ rec.pending = none) := ⟨hrs, hre⟩
        clear hre
        refine ⟨rec.fn, _, rec.assign, rec.body, run_yield hx.ll (by rw [hrp]; rfl), roundIn_of_wpIn trivial ?_⟩
        obtain ⟨vcur, hk0, hO0, hn0⟩ := hx.xo
        have hab0 : ab < W.heap.size := Nat.lt_of_lt_of_le habl hbW.size
        have hl3 : w4.heap.size + 3 < W.heap.size := (Array.getElem?_eq_some_iff.1 hx.ll).1
        have hgf : ∀ k, vcur.ownBlock = some k → k < Wf.heap.size := by
          obtain ⟨v2, k2, O2, _⟩ := hxf.xo
          have e2 := (hbW.block _ (Array.getElem?_eq_some_iff.1 k2).1).trans k2
          rw [hk0] at e2
          have e3 : vcur = v2 := by
            injection e2 with e2
            injection e2 with e2
            have := congrArg (fun x : Array Value => x[0]?) e2
            simpa using this
          rw [e3]
          exact fun k hk => (O2.low k hk).2
        obtain ⟨WA, hWA⟩ : ∃ WA, W.alloc (.cells #[.slice vo c.length vc] 36) = WA := ⟨_, rfl⟩
        have hbA : Below W.heap.size W WA := by rw [← hWA]; exact (Below.refl _ W).alloc (Nat.le_refl _) _
        have hbx : WA.heap[W.heap.size]? = some (.cells #[.slice vo c.length vc] 36 (0, 0)) := by rw [← hWA]; exact hp_new rfl
        have hxA := hx.next hbA
        have hbr := run_beginRound (P := Tryz.prog) hxA.ll hrs
        rw [hra, hrb, hrt, hrp]
        obtain ⟨W2, hW2⟩ : ∃ W2, WA.putObj (w4.heap.size + 3) (.loop { rec with state := .busy }) = W2 := ⟨_, rfl⟩
        have hwp := wrote_putObj (.loop { rec with state := .busy }) hxA.ll
        have hx2 := hxA.loop (by omega) { rec with state := .busy }
        rw [hW2] at hbr hwp hx2
        have hbox2 : W2.heap[W.heap.size]? = some (.cells #[.slice vo c.length vc] 36 (0, 0)) := (hwp.block _ (by omega)).trans hbx
        have hkeep2 : ∀ k, k < W.heap.size → k ≠ w4.heap.size + 3 → W2.heap[k]? = W.heap[k]? := fun k h1 h2 => (hwp.block k h2).trans (hbA.block k h1)
        have hs2 : W.heap.size < W2.heap.size := (Array.getElem?_eq_some_iff.1 hbox2).1
        have hrow2 : EVar.Row (fun b => b < w4.heap.size ∨ Wf.heap.size ≤ b) W2 c (.slice vo c.length vc) := hrow.keep (Nat.le_of_lt hs2) fun b hb hlt => hkeep2 b hlt (by have := hxf.ll; have := (Array.getElem?_eq_some_iff.1 this).1; omega)
        have hO2 : EVars.Own 36 (w4.heap.size + 4) (BX w4.heap.size ab) W2 (outK m D) vcur := (hO0.below hbA).wrote hwp (fun e => by have := (hO0.low _ e).1; omega) fun b hb e => hb.2.2.1 e
        have hk2 := (hkeep2 w4.heap.size (Array.getElem?_eq_some_iff.1 hk0).1 (by omega)).trans hk0
        obtain ⟨q0, q1, q2⟩ := HBX.out W2 (HB4.out.trans (hx2.bl.mono HB4.out.size))
        have CE : Hid (Calls Tryz.prog 26 #[.slice eo m.excl.length ec, .func (.func 27) #[] #[.pointer (some ⟨W.heap.size, 0, none⟩)]] W2 fun e w' => e = .returned (.bool (exclF m c)) ∧ Below W2.heap.size W2 w') :=
          lcontf_any 27 #[.pointer (some ⟨W.heap.size, 0, none⟩)] (matF c) m.excl _ (fun b => b < w.heap.size) HM.out.le W2 (HE.out.below (HB4w.out.trans (hx2.bl.mono HB4w.out.size))) (fun k hk u W' hW' hR => by
            have hwk := HM.out.exc _ (List.getElem_mem hk)
            exact expand1_any c m.excl[k] (.slice vo c.length vc) u _ _ hcw.1 hwk.1 (fun x hx => (hcw.2 x hx).2) (fun x hx => (hwk.2 x hx).2) W.heap.size W' ((hW'.cell (p := ⟨W.heap.size, 0, none⟩) hs2).trans (cell_of_blk hbox2 0)) (hrow2.below hW') hR) expand1Enters
        have hs3 := hx2.bl.size
        have HD := Lib.hid hD
        have HX2 := Lib.hid hx2
        have HROW2 := Lib.hid hrow2
        have HO2 := Lib.hid hO2
        have HK2 := Lib.hid hk2
        have HKEEP2 := Lib.hid hkeep2
        have HBOX2 := Lib.hid hbox2
        have HN0 := Lib.hid hn0
        have HGF := Lib.hid hgf
        have HCW := Lib.hid hcw
        have HCN := Lib.hid hcn
        have HSN := Lib.hid (outK_snoc m D c)
        have HFL := Lib.hid (fst_len HMN.out D hD)
        have hfw := hbW.size
        clear hra hrb hrt hrp HREC hxf hx hwp hbx hxA hk0 hO0 hn0 hrow hrow2 hO2 hk2 hkeep2 hbox2 hcm hD hgf hcw hcn hx2 hbA
        gi_wp2
        refine ⟨W2, hbr, ?_⟩
        clear hbr hrs hWA hW2
        gi_wp2_with fail
        refine ⟨trivial, rfl, ?_⟩
        refine (CallsIn.inRound (w4.heap.size + 3) (callsIn_wide.2 CE.out)).mono ?_
        rintro e w6 ⟨rfl, hb6⟩
        have HX6 := Lib.hid (HX2.out.next hb6)
        have HK6 : Hid (∀ k, k < W.heap.size → k ≠ w4.heap.size + 3 → w6.heap[k]? = W.heap[k]?) := fun k h1 h2 => (hb6.block k (by omega)).trans (HKEEP2.out k h1 h2)
        have hs6 : W2.heap.size ≤ w6.heap.size := hb6.size
        have hrr : { { rec with state := LoopState.busy } with state := .ready, pending := none } = rec := by
          obtain ⟨a1, a2⟩ := HRS.out
          cases rec
          simp only at a1 a2
          rw [a1, a2]
        have HRR := Lib.hid hrr
        clear CE hrr q0 q1 q2
        dsimp only
        cases hex : exclF m c with
        | true =>
          have HSN1 := Lib.hid (HSN.out.1 hex)
          clear hex HSN hb6 HX2 HROW2 HO2 HK2 HBOX2
          gi_wp2_with fail
          have hwl := wrote_putObj (.loop { { rec with state := LoopState.busy } with state := .ready, pending := none }) HX6.out.ll
          have hxl := HX6.out.loop (by omega) { { rec with state := LoopState.busy } with state := .ready, pending := none }
          refine ⟨_, _, run_endRound none HX6.out.ll, rfl, ⟨hab, D ++ [c], ?_, ?_⟩, ?_, ?_⟩
          · rw [List.append_assoc]; exact HD.out
          · rw [HSN1.out, ← HRR.out]; exact hxl
          · exact Nat.le_trans (show W.heap.size ≤ w6.heap.size by omega) (Nat.le_of_eq hwl.size.symm)
          · have e9 := (hwl.block ab (by omega)).trans (HK6.out _ hab0 (by omega))
            first | exact e9 | exact e9.trans (Array.getElem?_eq_getElem hab0)
        | false =>
          have HSN2 := Lib.hid (HSN.out.2 hex)
          have hO6 := HO2.out.below hb6
          have hk6 := (hb6.block _ (by omega)).trans HK2.out
          have hbox6 := (hb6.block W.heap.size hs2).trans HBOX2.out
          have HROW6 := Lib.hid (HROW2.out.below hb6)
          obtain ⟨oo, oc, rfl⟩ := hO6.form
          have HO6 := Lib.hid hO6
          have HKO6 := Lib.hid hk6
          have HBX6 := Lib.hid hbox6
          have HS : Hid (∀ W', Below w6.heap.size w6 W' → W'.cell? ⟨w4.heap.size, 0, none⟩ = some (.slice oo (outK m D).length oc) ∧ W'.cell? ⟨W.heap.size, 0, none⟩ = some (.slice vo c.length vc)) := fun W' hb =>
            ⟨cell_of_blk ((hb.block _ (by omega)).trans HKO6.out) 0, cell_of_blk ((hb.block _ (by omega)).trans HBX6.out) 0⟩
          have HIC : Hid (∀ W', Below w6.heap.size w6 W' → Calls Tryz.prog 28 #[.slice vo c.length vc] W' fun e w' => ∃ ao cap, e = .returned (.slice ao c.length cap) ∧ EVar.Row (fun b => ((b < w4.heap.size ∨ Wf.heap.size ≤ b) ∧ b < W'.heap.size) ∨ W'.heap.size ≤ b) w' (instF c) (.slice ao c.length cap) ∧ Below W'.heap.size W' w') := fun W' hb =>
            instance_any c _ _ (by omega) (fun x hx => (HCW.out.2 x hx).1) HCN.out W' (HROW6.out.below hb)
          obtain ⟨iV, hiV, hzV, hnV, hyV⟩ := Tryz.infoVars'
          have HIV := Lib.hid hiV
          have hbv : ∀ b, (b < w4.heap.size ∨ Wf.heap.size ≤ b) → BX w4.heap.size ab b ∧ (Value.slice oo (outK m D).length oc).ownBlock ≠ some b := fun b hb => by
            have hl := (Array.getElem?_eq_some_iff.1 HX2.out.ll).1
            refine ⟨⟨by omega, by omega, by omega, by omega⟩, fun e => ?_⟩
            have h1 := (HO6.out.low _ e).1
            have h2 := HGF.out _ e
            omega
          have HBV := Lib.hid hbv
          have hab6 : ab < w6.heap.size := by omega
          have h46 : w4.heap.size + 4 ≤ w6.heap.size := by omega
          have HGB : Hid ((Value.slice oo (outK m D).length oc).ownBlock ≠ some W.heap.size) := fun e => by have := HGF.out _ e; omega
          generalize outK m D = L at *
          clear hex HSN hO6 hk6 hbox6 hb6 hiV hbv HX2 HROW2 HO2 HK2 HBOX2 HROW6
          as_aux_lemma =>
          gi_wp2_with fail
          have HDR : Hid (Below w6.heap.size w6 w6.drew) := (Below.refl _ w6).drew
          refine wp_region_Zround (S := fun W' : World => W'.cell? ⟨w4.heap.size, 0, none⟩ = some (.slice oo L.length oc) ∧ W'.cell? ⟨W.heap.size, 0, none⟩ = some (.slice vo c.length vc)) 5 (by kernel_rfl) (by kernel_rfl) (HS.out _ HDR.out) (fun hHeld => ?_)
          refine wpAnyZ_takeL (i := 0) (v := ?_) rfl (by kernel_rfl) (by kernel_rfl) (by kernel_rfl) (by kernel_rfl) (fun _ _ _ h => h) (Or.inl ⟨by rfl, ?_⟩) (by assumption) ?_
          rotate_left
          · (intro w hSw; (try dsimp only at hSw); go_simp; try with_reducible rfl)
          try simp only [Act.put, List.setIfInBounds_toArray, List.set_cons_zero, List.set_cons_succ]
          refine wpAnyZ_takeL (i := 1) (v := ?_) rfl (by kernel_rfl) (by kernel_rfl) (by kernel_rfl) (by kernel_rfl) (fun _ _ _ h => h) (Or.inl ⟨by rfl, ?_⟩) (by assumption) ?_
          rotate_left
          · (intro w hSw; (try dsimp only at hSw); go_simp; try with_reducible rfl)
          try simp only [Act.put, List.setIfInBounds_toArray, List.set_cons_zero, List.set_cons_succ]
          obtain ⟨wd, hwd⟩ : ∃ wd, w6.drew = wd := ⟨_, rfl⟩
          rw [hwd] at HDR ⊢
          clear hwd
          refine wpAnyZ_oneL (i := 2) (by kernel_rfl) rfl (fun K hK => ?_)
          go_simp
          go_at_call 28
          refine (HIC.out wd HDR.out).mono ?_
          rintro e w7 ⟨ro, rc, rfl, hri, hb7⟩
          have HRI := Lib.hid hri
          have HB7 := Lib.hid hb7
          have HBD := Lib.hid (HDR.out.trans (hb7.mono HDR.out.size))
          clear hri hb7 HIC
          refine hK.out _ _ (fun _ => HS.out _ HBD.out) (fun hHeld => ?_)
          replace hHeld := hHeld (by decide)
          clear hK K
          try simp only [Act.put, List.setIfInBounds_toArray, List.set_cons_zero, List.set_cons_succ]
          refine wpAnyZ_oneL (i := 3) (by kernel_rfl) rfl (fun K hK => ?_)
          rw [if_pos (by rfl)]
          refine wp_build1 23 36 (.tmp 28) rfl #[.slice ro c.length rc] iV _ Tryz.underlying23 HIV.out hzV 1 hnV (by decide) (by decide) rfl rfl ?_
          obtain ⟨W8, hW8⟩ : ∃ W8, w7.alloc (.cells #[.slice ro c.length rc] 36) = W8 := ⟨_, rfl⟩
          have hsv := XO.seven (ob := w4.heap.size) (ab := ab) (HO6.out.below HDR.out) (Nat.le_trans h46 HDR.out.size) (Nat.lt_of_lt_of_le hab6 HDR.out.size) HB7.out HRI.out HBV.out hW8
          have HSV := Lib.hid hsv
          have HB8 : Hid (Below w6.heap.size w6 W8) := HDR.out.trans (HSV.out.2.2.2.1.mono HDR.out.size)
          rw [hW8]
          clear hW8 hsv
          refine hK.out _ _ (fun _ => HS.out _ HB8.out) (fun hHeld => ?_)
          replace hHeld := hHeld (by decide)
          clear hK K
          try simp only [Act.put, List.setIfInBounds_toArray, List.set_cons_zero, List.set_cons_succ]
          have hk8 := HSV.out.2.2.1
          have hz8 := HSV.out.2.2.2.2
          have hzd := HDR.out.size
          refine wpAnyZ_oneL (i := 4) (by kernel_rfl) rfl (fun K hK => ?_)
          rw [if_pos (by rfl)]
          refine wp_own_push (E := EVars) (.tmp 26) (.tmp 29) 23 rfl (w4.heap.size + 4) 36 iV _ 24 Tryz.underlying23 HIV.out hzV hnV hyV rfl _ (.slice oo L.length oc) rfl HSV.out.1 _ [.slice ro c.length rc] HSV.out.2.1 w7.heap.size (0, 0) hk8 rfl (by unfold maxLen; have := HFL.out; omega) (by have := HFL.out; omega) (by omega) ?_
          intro v8 w8 hown hgrow hpu
          have hei := XO.eight (HO6.out.below HDR.out) HN0.out ((HDR.out.block _ (by omega)).trans HKO6.out) (Nat.lt_of_lt_of_le hab6 HDR.out.size) HSV.out.2.2.2.1 hown hgrow hpu
          obtain ⟨g8, p8, hv8⟩ := hpu.form
          subst hv8
          have HEI := Lib.hid hei
          have HS8 : Hid (w8.cell? ⟨w4.heap.size, 0, none⟩ = some (.slice oo L.length oc) ∧ w8.cell? ⟨W.heap.size, 0, none⟩ = some (.slice vo c.length vc)) := ⟨HEI.out.2.2.2.2.2, cell_of_blk ((HEI.out.1 _ (by omega) HGB.out).trans ((HDR.out.block _ (by omega)).trans HBX6.out)) 0⟩
          have f8 := HEI.out.2.2.2.2.1
          clear hown hgrow hpu hei hk8 HSV
          refine hK.out _ _ (fun _ => HS8.out) (fun hHeld => ?_)
          replace hHeld := hHeld (by decide)
          clear hK K
          try simp only [Act.put, List.setIfInBounds_toArray, List.set_cons_zero, List.set_cons_succ]
          refine wpAnyZ_oneL (i := 5) (by kernel_rfl) rfl (fun K hK => ?_)
          go_simp
          refine hK.out _ _ (fun h => absurd h (by decide)) (fun _ => ?_)
          clear hK K
          try simp only [Act.put, List.setIfInBounds_toArray, List.set_cons_zero, List.set_cons_succ]
          refine wpAnyZ_done (by kernel_rfl) ?_ _
          clear hHeld f8 HS8
          refine ⟨fun hh => (by cases hh), ?_⟩
          have hxm9 := HX6.out.more HO6.out HEI.out.2.1 ((HDR.out.mono (show w4.heap.size ≤ w6.heap.size by omega)).trans HEI.out.2.2.1) (fun k h1 h2 h3 => (HEI.out.2.2.2.1 k (by omega) h2 h3).trans (HDR.out.block k h1))
          have HK9 := Lib.hid (HEI.out.2.2.2.1 ab (by omega) (by omega) HN0.out)
          have hs9 := HEI.out.2.2.1.size
          have HXM9 := Lib.hid hxm9
          clear hxm9 HEI
          generalize w8.setCell ⟨w4.heap.size, 0, none⟩ (.slice (some ⟨g8, 0, none⟩) (L.length + 1) p8) = w9 at *
          gi_wp2_with fail
          have hwl := wrote_putObj (.loop { { rec with state := LoopState.busy } with state := .ready, pending := none }) HXM9.out.ll
          have hxl := HXM9.out.loop (by omega) { { rec with state := LoopState.busy } with state := .ready, pending := none }
          refine ⟨_, _, run_endRound none HXM9.out.ll, rfl, ⟨hab, D ++ [c], ?_, ?_⟩, ?_, ?_⟩
          · rw [List.append_assoc]; exact HD.out
          · rw [HSN2.out, ← HRR.out]; exact hxl
          · exact Nat.le_trans (show W.heap.size ≤ w9.heap.size by omega) (Nat.le_of_eq hwl.size.symm)
          · have e9 := (hwl.block ab (by omega)).trans (HK9.out.trans ((HDR.out.block _ hab6).trans (HK6.out _ hab0 (by omega))))
            first | exact e9 | exact e9.trans (Array.getElem?_eq_getElem hab0)
      have hC := comb1_any m.axes (w4.heap.size + 3) (w4.heap.size + 1) w4 Wc ao ac _ hJ HOK.out.a8 HOK.out.av hA4
      clear hJ hA4 HXM HA HE HB4
      refine (callsIn_wide.2 hC).mono ?_
      clear hC
      rintro e W2 ⟨⟨rvv, rfl⟩, ab0, hab0, D, hD, hx⟩
      rw [List.append_nil] at hD
      rw [← hD, outK_all, ← incK_zero] at hx
      have hsc := HSC.out
      have hst : rec.state ≠ .busy := by rw [HREC.out]; exact fun h => by cases h
      have hpe : rec.pending = none := by rw [HREC.out]
      refine ⟨rec.pending, _, run_endLoop hx.ll hst, ?_⟩
      rw [hpe]
      have hx3 := hx.loop (by omega) { rec with state := .exhausted, pending := none }
      obtain ⟨W3, hW3⟩ : ∃ W3, W2.putObj (w4.heap.size + 2 + 1) (.loop { rec with state := .exhausted, pending := none }) = W3 := ⟨_, rfl⟩
      change XM _ _ _ _ _ (W2.putObj (w4.heap.size + 2 + 1) _) at hx3
      rw [hW3] at hx3 ⊢
      generalize ({ rec with state := .exhausted, pending := none } : Loop) = rec2 at *
      have hx4 := hx3.plain
      obtain ⟨ab, hab⟩ : ∃ k, k = w4.heap.size + 2 := ⟨_, rfl⟩
      rw [← hab] at hx4
      have hab1 : ab ≤ w4.heap.size + 2 := by omega
      have hab2 : w4.heap.size + 2 ≤ ab := by omega
      have HX := Lib.hid hx4
      clear hx hW3 hx3 hx4 hst hpe hD HREC hsc hab hab0
      obtain ⟨p0, p1, p2⟩ := HBX4.out W3 HX.out.bl
      dsimp only
      go_wp2_with fail
      go_loopg [34] m.incl.length (XiRel m w4 (.slice ao m.axes.length ac) rec2 ab)
      case atStart => exact ⟨0, rfl, Nat.zero_le _, rfl, HX.out⟩
      case round =>
        obtain ⟨i, rfl, hi, rfl, hx⟩ := hrel
        have HXW := Lib.hid hx
        have HLI := Lib.hid (inc_len HMN.out i)
        clear hx HX p0 p1 p2
        by_cases hlt : i < m.incl.length
        · have hii : (i : Int) < (m.incl.length : Int) := by omega
          obtain ⟨bl, off, a1, c1, rfl, hbl, y0, hvr⟩ := evars_at (HI.out.below (HB4w.out.trans (HXW.out.bl.mono HB4w.out.size))) hlt
          have hcw := HM.out.inc _ (List.getElem_mem hlt)
          have hcn := HOK.out.im _ (List.getElem_mem hlt)
          have hcl := HOK.out.i1
          have hsn := incK_step hlt
          have hlw := inc_wf HM.out HOK.out i
          obtain ⟨vcur, hk0, hO0, hn0⟩ := HXW.out.xo
          have hp := HSM.out _ (List.getElem_mem hlt)
          generalize m.incl[i] = c at *
          obtain ⟨wq, hwq⟩ : ∃ wq, wr.alloc (.cells #[.slice a1 c.length c1] 36 (0, 0)) = wq := ⟨_, rfl⟩
          have hboxq : wq.heap[wr.heap.size]? = some (.cells #[.slice a1 c.length c1] 36 (0, 0)) := by rw [← hwq]; exact hp_new rfl
          have hbq : Below wr.heap.size wr wq := by rw [← hwq]; exact (Below.refl _ wr).alloc (Nat.le_refl _) _
          have hsq : wr.heap.size < wq.heap.size := (Array.getElem?_eq_some_iff.1 hboxq).1
          obtain ⟨oo, oc, rfl⟩ := hO0.form
          have hlow := hO0.low
          have hOq := hO0.below hbq
          have hkq := (hbq.block _ (Array.getElem?_eq_some_iff.1 hk0).1).trans hk0
          have hcq : wq.cell? ⟨w4.heap.size, 0, none⟩ = some (.slice oo (incK m i).length oc) := cell_of_blk hkq 0
          have hrowq := hvr.below hbq
          have CE : Hid (Calls Tryz.prog 26 #[.slice oo (incK m i).length oc, .func (.func 29) #[] #[.pointer (some ⟨wr.heap.size, 0, none⟩)]] wq fun e w' => e = .returned (.bool ((incK m i).any (fun l => agrF l c))) ∧ Below wq.heap.size wq w') :=
            lcontf_any 29 #[.pointer (some ⟨wr.heap.size, 0, none⟩)] (fun l => agrF l c) (incK m i) _ (fun _ => True) (by have := HLI.out; omega) wq (hOq.row (fun _ _ => trivial) (fun _ _ => trivial)) (fun k hk u W' hW' hR => by
              have hwk := hlw _ (List.getElem_mem hk)
              exact expand2_any c (incK m i)[k] (.slice a1 c.length c1) u _ _ hcw.1 hwk.1 (fun x hx => (hcw.2 x hx).2) (fun x hx => (hwk.2 x hx).2) wr.heap.size W' ((hW'.cell (p := ⟨wr.heap.size, 0, none⟩) hsq).trans (cell_of_blk hboxq 0)) (hrowq.below hW') hR) expand2Enters
          have HXQ := Lib.hid (HXW.out.next hbq)
          have HROWQ := Lib.hid hrowq
          have HOQ := Lib.hid hOq
          have HKQ := Lib.hid hkq
          have HBOXQ := Lib.hid hboxq
          have HN0 := Lib.hid hn0
          have HLOW := Lib.hid hlow
          have HCW := Lib.hid hcw
          have HCN := Lib.hid hcn
          have HSN := Lib.hid hsn
          have HFL : Hid ((incK m i).length ≤ 2000) := by have := HLI.out; unfold Hid; omega
          have HLC : Hid (c.length ≤ 1000000) := hp
          have hsw := HXW.out.bl.size
          clear hvr hcw hcn hsn hlw hk0 hO0 hn0 hlow hOq hkq hrowq hboxq hbq hp HXW HLI
          as_aux_lemma =>
          go_wp2_with fail
          refine CE.out.mono ?_
          clear hwq
          rintro e w6 ⟨rfl, hb6⟩
          have HX6 := Lib.hid (HXQ.out.next hb6)
          have hs6 := hb6.size
          cases hex : (incK m i).any (fun l => agrF l c) with
          | true =>
            have HNX := Lib.hid (HSN.out.1 hex)
            clear hex HSN hb6 CE HXQ HROWQ HOQ HKQ HBOXQ hcq y0
            go_wp2_with fail
            go_roundg (m.incl.length - (i + 1))
            case measure => omega
            case rel => exact ⟨i + 1, by go_num, by omega, rfl, by rw [HNX.out]; exact HX6.out⟩
          | false =>
            have HNX := Lib.hid (HSN.out.2 hex)
            have hO6 := HOQ.out.below hb6
            have hk6 := (hb6.block _ (by omega)).trans HKQ.out
            have hbox6 := (hb6.block wr.heap.size hsq).trans HBOXQ.out
            have HROW6 := Lib.hid (HROWQ.out.below hb6)
            have HO6 := Lib.hid hO6
            have HKO6 := Lib.hid hk6
            have HBX6 := Lib.hid hbox6
            have HS : Hid (∀ W', Below w6.heap.size w6 W' → W'.cell? ⟨w4.heap.size, 0, none⟩ = some (.slice oo (incK m i).length oc) ∧ W'.cell? ⟨wr.heap.size, 0, none⟩ = some (.slice a1 c.length c1)) := fun W' hb =>
              ⟨cell_of_blk ((hb.block _ (by omega)).trans HKO6.out) 0, cell_of_blk ((hb.block _ (by omega)).trans HBX6.out) 0⟩
            have HIC : Hid (∀ W', Below w6.heap.size w6 W' → Calls Tryz.prog 28 #[.slice a1 c.length c1] W' fun e w' => ∃ ao cap, e = .returned (.slice ao c.length cap) ∧ EVar.Row (fun b => (b < w.heap.size ∧ b < W'.heap.size) ∨ W'.heap.size ≤ b) w' (instF c) (.slice ao c.length cap) ∧ Below W'.heap.size W' w') := fun W' hb =>
              instance_any c _ _ HLC.out (fun x hx => (HCW.out.2 x hx).1) HCN.out W' (HROW6.out.below hb)
            obtain ⟨iV, hiV, hzV, hnV, hyV⟩ := Tryz.infoVars'
            have HIV := Lib.hid hiV
            have hbv : ∀ b, b < w.heap.size → BX w4.heap.size ab b ∧ (Value.slice oo (incK m i).length oc).ownBlock ≠ some b := fun b hb => by
              refine ⟨⟨by omega, by omega, by omega, by omega⟩, fun e => ?_⟩
              have h1 := (HO6.out.low _ e).1
              omega
            have HBV := Lib.hid hbv
            have hl6 := (Array.getElem?_eq_some_iff.1 HX6.out.ll).1
            have h46 : w4.heap.size + 4 ≤ w6.heap.size := by omega
            have hab6 : ab < w6.heap.size := by omega
            have HGB : Hid ((Value.slice oo (incK m i).length oc).ownBlock ≠ some wr.heap.size) := fun e => by have := (HLOW.out _ e).2; omega
            generalize incK m i = L at *
            clear hex HSN hO6 hk6 hbox6 hb6 hiV hbv CE HXQ HROWQ HOQ HKQ HBOXQ HROW6 hcq y0
            as_aux_lemma =>
            go_wp2_with fail
            have HDR : Hid (Below w6.heap.size w6 w6.drew) := (Below.refl _ w6).drew
            refine wp_region_Zq (S := fun W' : World => W'.cell? ⟨w4.heap.size, 0, none⟩ = some (.slice oo L.length oc) ∧ W'.cell? ⟨wr.heap.size, 0, none⟩ = some (.slice a1 c.length c1)) 5 (by kernel_rfl) (HS.out _ HDR.out) (fun hHeld => ?_)
            refine wpAnyZ_takeL (i := 0) (v := ?_) rfl (by kernel_rfl) (by kernel_rfl) (by kernel_rfl) (by kernel_rfl) (fun _ _ _ h => absurd rfl (h.1 _)) (Or.inl ⟨by rfl, ?_⟩) (by assumption) ?_
            rotate_left
            · (intro w hSw; (try dsimp only at hSw); go_simp; try with_reducible rfl)
            try simp only [Act.put, List.setIfInBounds_toArray, List.set_cons_zero, List.set_cons_succ]
            refine wpAnyZ_takeL (i := 1) (v := ?_) rfl (by kernel_rfl) (by kernel_rfl) (by kernel_rfl) (by kernel_rfl) (fun _ _ _ h => absurd rfl (h.1 _)) (Or.inl ⟨by rfl, ?_⟩) (by assumption) ?_
            rotate_left
            · (intro w hSw; (try dsimp only at hSw); go_simp; try with_reducible rfl)
            try simp only [Act.put, List.setIfInBounds_toArray, List.set_cons_zero, List.set_cons_succ]
            obtain ⟨wd, hwd⟩ : ∃ wd, w6.drew = wd := ⟨_, rfl⟩
            rw [hwd] at HDR ⊢
            clear hwd
            refine wpAnyZ_oneL (i := 2) (by kernel_rfl) rfl (fun K hK => ?_)
            go_simp
            go_at_call 28
            refine (HIC.out wd HDR.out).mono ?_
            rintro e w7 ⟨ro, rc, rfl, hri, hb7⟩
            have HRI := Lib.hid hri
            have HB7 := Lib.hid hb7
            have HBD := Lib.hid (HDR.out.trans (hb7.mono HDR.out.size))
            clear hri hb7 HIC
            refine hK.out _ _ (fun _ => HS.out _ HBD.out) (fun hHeld => ?_)
            replace hHeld := hHeld (by decide)
            clear hK K
            try simp only [Act.put, List.setIfInBounds_toArray, List.set_cons_zero, List.set_cons_succ]
            refine wpAnyZ_oneL (i := 3) (by kernel_rfl) rfl (fun K hK => ?_)
            rw [if_pos (by rfl)]
            refine wp_build1 23 36 (.tmp 44) rfl #[.slice ro c.length rc] iV _ Tryz.underlying23 HIV.out hzV 1 hnV (by decide) (by decide) rfl rfl ?_
            obtain ⟨W8, hW8⟩ : ∃ W8, w7.alloc (.cells #[.slice ro c.length rc] 36) = W8 := ⟨_, rfl⟩
            have hsv := XO.seven (ob := w4.heap.size) (ab := ab) (HO6.out.below HDR.out) (Nat.le_trans h46 HDR.out.size) (Nat.lt_of_lt_of_le hab6 HDR.out.size) HB7.out HRI.out HBV.out hW8
            have HSV := Lib.hid hsv
            have HB8 : Hid (Below w6.heap.size w6 W8) := HDR.out.trans (HSV.out.2.2.2.1.mono HDR.out.size)
            rw [hW8]
            clear hW8 hsv
            refine hK.out _ _ (fun _ => HS.out _ HB8.out) (fun hHeld => ?_)
            replace hHeld := hHeld (by decide)
            clear hK K
            try simp only [Act.put, List.setIfInBounds_toArray, List.set_cons_zero, List.set_cons_succ]
            have hk8 := HSV.out.2.2.1
            have hz8 := HSV.out.2.2.2.2
            have hzd := HDR.out.size
            refine wpAnyZ_oneL (i := 4) (by kernel_rfl) rfl (fun K hK => ?_)
            rw [if_pos (by rfl)]
            refine wp_own_push (E := EVars) (.tmp 42) (.tmp 45) 23 rfl (w4.heap.size + 4) 36 iV _ 24 Tryz.underlying23 HIV.out hzV hnV hyV rfl _ (.slice oo L.length oc) rfl HSV.out.1 _ [.slice ro c.length rc] HSV.out.2.1 w7.heap.size (0, 0) hk8 rfl (by unfold maxLen; have := HFL.out; omega) (by have := HFL.out; omega) (by omega) ?_
            intro v8 w8 hown hgrow hpu
            have hei := XO.eight (HO6.out.below HDR.out) HN0.out ((HDR.out.block _ (by omega)).trans HKO6.out) (Nat.lt_of_lt_of_le hab6 HDR.out.size) HSV.out.2.2.2.1 hown hgrow hpu
            obtain ⟨g8, p8, hv8⟩ := hpu.form
            subst hv8
            have HEI := Lib.hid hei
            have HS8 : Hid (w8.cell? ⟨w4.heap.size, 0, none⟩ = some (.slice oo L.length oc) ∧ w8.cell? ⟨wr.heap.size, 0, none⟩ = some (.slice a1 c.length c1)) := ⟨HEI.out.2.2.2.2.2, cell_of_blk ((HEI.out.1 _ (by omega) HGB.out).trans ((HDR.out.block _ (by omega)).trans HBX6.out)) 0⟩
            have f8 := HEI.out.2.2.2.2.1
            clear hown hgrow hpu hei hk8 HSV
            refine hK.out _ _ (fun _ => HS8.out) (fun hHeld => ?_)
            replace hHeld := hHeld (by decide)
            clear hK K
            try simp only [Act.put, List.setIfInBounds_toArray, List.set_cons_zero, List.set_cons_succ]
            refine wpAnyZ_oneL (i := 5) (by kernel_rfl) rfl (fun K hK => ?_)
            go_simp
            refine hK.out _ _ (fun h => absurd h (by decide)) (fun _ => ?_)
            clear hK K
            try simp only [Act.put, List.setIfInBounds_toArray, List.set_cons_zero, List.set_cons_succ]
            refine wpAnyZ_done (by kernel_rfl) ?_ _
            clear hHeld f8 HS8
            refine ⟨fun _ hh => (by cases hh), ?_⟩
            have hxm9 := HX6.out.more HO6.out HEI.out.2.1 ((HDR.out.mono (show w4.heap.size ≤ w6.heap.size by omega)).trans HEI.out.2.2.1) (fun k h1 h2 h3 => (HEI.out.2.2.2.1 k (by omega) h2 h3).trans (HDR.out.block k h1))
            have HXM9 := Lib.hid hxm9
            clear hxm9 HEI
            generalize w8.setCell ⟨w4.heap.size, 0, none⟩ (.slice (some ⟨g8, 0, none⟩) (L.length + 1) p8) = w9 at *
            go_wp2_with fail
            go_roundg (m.incl.length - (i + 1))
            case measure => omega
            case rel => exact ⟨i + 1, by go_num, by omega, rfl, by rw [HNX.out]; exact HXM9.out⟩
        · have hii : ¬ (i : Int) < (m.incl.length : Int) := by omega
          have he : i = m.incl.length := by omega
          rw [he, incK_all] at HXW
          clear he hlt
          obtain ⟨vcur, hk0, hO0, hn0⟩ := HXW.out.xo
          obtain ⟨oo, oc, rfl⟩ := hO0.form
          have hcq : wr.cell? ⟨w4.heap.size, 0, none⟩ = some (.slice oo (outF m).length oc) := cell_of_blk hk0 0
          have hwd := wrote_putObj (.deferred none) HXW.out.dd
          have hrow : EVars.Row (fun _ => True) (wr.putObj (w4.heap.size + 2) (.deferred none)) (outF m) (.slice oo (outF m).length oc) :=
            ((hO0.row (B' := fun b => b ≠ w4.heap.size + 2) (fun b hb => hb.2.1) (fun b hb => by omega)).keep (Nat.le_of_eq hwd.size.symm) (fun b hb _ => hwd.block b hb)).mono fun _ _ => trivial
          have HBF : Hid (Below w.heap.size w (wr.putObj (w4.heap.size + 2) (.deferred none))) := HB4w.out.trans ((HXW.out.bl.trans (hwd.below (by omega))).mono HB4w.out.size)
          have HDD := Lib.hid HXW.out.dd
          have HROW := Lib.hid hrow
          have HE1 := Lib.hid (fun h => HEL.out HMN.out h)
          have HE2 := Lib.hid (fun h => HEO.out HMN.out h)
          clear hk0 hO0 hn0 hwd hrow HXW HEL HEO HLI
          by_cases hbig : 256 < (outF m).length
          · have t5 : (256 : Int) < ((outF m).length : Int) := by omega
            have HN := Lib.hid (HE1.out hbig)
            clear HE1 HE2 hbig
            go_wp2_with fail
            (try simp only [Exit.inBlock, Exit.then])
            refine ⟨by simp, .inl ⟨_, _, rfl, run_takeDeferred HDD.out, ?_⟩⟩
            refine ⟨_, results_tmp2 rfl _ _ _, ?_⟩
            exact ⟨_, by rw [HN.out.1] <;> rfl, by rw [HN.out.2]; exact .nil, HBF.out⟩
          · have t5 : decide ((256 : Int) < ((outF m).length : Int)) = false := decide_eq_false (by omega)
            have t5b : ¬ (256 : Int) < ((outF m).length : Int) := by omega
            have HN := Lib.hid (HE2.out hbig)
            clear HE1 HE2 hbig
            go_wp2_with fail
            (try simp only [Exit.inBlock, Exit.then])
            refine ⟨by simp, .inl ⟨_, _, rfl, run_takeDeferred HDD.out, ?_⟩⟩
            refine ⟨_, results_tmp2 rfl _ _ _, ?_⟩
            exact ⟨_, by rw [HN.out.1] <;> rfl, by rw [HN.out.2]; exact HROW.out, HBF.out⟩
  · have t1b : (((validM m : Nat) : Int) == 0) = false := by rw [beq_eq_false_iff_ne]; omega
    have t1 : (((validM m : Nat) : Int) != 0) = true := by simp [bne, t1b]
    have HN := Lib.hid (exp_bad hv)
    generalize validM m = ve at *
    go_wp2_with fail
    (try simp only [Exit.inBlock, Exit.then]); refine ⟨_, results_tmp2 rfl _ _ _, ?_⟩
    exact ⟨_, by rw [HN.out.1] <;> rfl, by rw [HN.out.2]; exact .nil, HB0.out.trans (HB3.out.mono HB0.out.size)⟩
end Go.Proofs.YtomecnncighkgaaGreatDoor
