/- The walk over the reference's Expand. -/
import Derived.Test.YtomecnncighkgaaGreatDoorMr4m
import Derived.Test.YtomecnncighkgaaGreatDoorMr6m
import Derived.Test.YtomecnncighkgaaGreatDoorMw8
namespace Go.Proofs.YtomecnncighkgaaGreatDoor
open Go.RowKit Go.Deep

def Oi1Rel (m : MX) (C : List (List VR)) (w5 : World) (f : Nat) (t6 t7 : Value) (wr : World) : Prop :=
  ∃ i : Nat, t7 = .int .i64 (i : Nat) ∧ i ≤ C.length ∧ f = C.length - i ∧ EVars.Own 36 w5.heap.size (fun _ => True) wr (outK m (C.take i)) t6 ∧ Below w5.heap.size w5 wr
def Oi2Rel (m : MX) (w5 : World) (f : Nat) (t6 t10 : Value) (wr : World) : Prop :=
  ∃ i : Nat, t10 = .int .i64 (i : Nat) ∧ i ≤ m.incl.length ∧ f = m.incl.length - i ∧ EVars.Own 36 w5.heap.size (fun _ => True) wr (incK m i) t6 ∧ Below w5.heap.size w5 wr
def OkRel {α : Type} (M : List α) (p : α → Bool) (dd : Bool) (n : Nat) (w1 : World) (f : Nat) (td tk : Value) (wr : World) : Prop :=
  ∃ (k : Nat) (d : Bool), tk = .int .i64 (k : Nat) ∧ td = .bool d ∧ k ≤ n ∧ f = n - k ∧ dd = (d || (M.drop k).any p) ∧ Below w1.heap.size w1 wr
set_option maxRecDepth 100000 in
set_option maxHeartbeats 6400000 in
theorem rmexpand_any (m : MX) (hm : m.wf) (v : Value) (w : World) (h : MAt (fun b => b < w.heap.size) w v m) (hsm : ∀ L ∈ m.incl, L.length ≤ 1000000) : Calls Tryz.prog 11 #[v] w (XpPost m w) := by
  obtain ⟨ao, ac, io, ic, eo, ec, rfl, hA, hI, hE⟩ := h
  obtain ⟨W1, hW1⟩ : ∃ W1, w.alloc (.cells #[.slice ao m.axes.length ac, .slice io m.incl.length ic, .slice eo m.excl.length ec] 25 (0, 0)) = W1 := ⟨_, rfl⟩
  have hk1 : W1.heap[w.heap.size]? = some (.cells #[.slice ao m.axes.length ac, .slice io m.incl.length ic, .slice eo m.excl.length ec] 25 (0, 0)) := by rw [← hW1]; exact hp_new rfl
  have hb1 : Below w.heap.size w W1 := by rw [← hW1]; exact (Below.refl _ w).alloc (Nat.le_refl _) _
  have HLT : Hid (w.heap.size < W1.heap.size) := (Array.getElem?_eq_some_iff.1 hk1).1
  have HK1 := Lib.hid hk1
  have HBX : Hid (∀ W', Below W1.heap.size W1 W' → W'.cell? ⟨w.heap.size, 0, none⟩ = some (.slice ao m.axes.length ac) ∧ W'.cell? ⟨w.heap.size, 1, none⟩ = some (.slice io m.incl.length ic) ∧ W'.cell? ⟨w.heap.size, 2, none⟩ = some (.slice eo m.excl.length ec)) := fun W' hb => by
    have q := (hb.block _ HLT.out).trans HK1.out
    exact ⟨cell_of_blk q 0, cell_of_blk q 1, cell_of_blk q 2⟩
  have HA := Lib.hid hA
  have HI := Lib.hid hI
  have HE := Lib.hid hE
  have HM := Lib.hid hm
  have HSM := Lib.hid hsm
  have HB0 := Lib.hid hb1
  have VC := Lib.hid (rmvalid_any m _ (fun b => b < w.heap.size) hm W1 ⟨ao, ac, io, ic, eo, ec, rfl, hA.below hb1, hI.below hb1, hE.below hb1⟩)
  obtain ⟨p0, p1, p2⟩ := HBX.out W1 (Below.refl _ _)
  obtain ⟨iV, hiV, hzV, hnV, hyV⟩ := Tryz.infoVars'
  have HIV := Lib.hid hiV
  clear hA hI hE hm hsm hb1 hk1 HK1 hiV
  go_enter Tryz.func11, Tryz.ntmps11
  go_wp2_with fail
  refine VC.out.mono ?_
  rintro e w3 ⟨rfl, hb3⟩
  have HB3 := Lib.hid hb3
  clear VC hb3 hW1 p0 p1 p2
  by_cases hv : validM m = 0
  · have t1b : (((validM m : Nat) : Int) == 0) = true := by rw [hv]; rfl
    have t1 : (((validM m : Nat) : Int) != 0) = false := by rw [hv]; rfl
    have HOK := Lib.hid (mok hv)
    have HEM := Lib.hid (fun h => exp_many hv h)
    have HEL := Lib.hid (fun h h2 => exp_long hv h h2)
    have HEO := Lib.hid (fun h h2 => exp_ok hv h h2)
    generalize validM m = ve at *
    clear hv
    have CM := Lib.hid (rmany_any m.axes (.slice ao m.axes.length ac) (fun b => b < w.heap.size) HOK.out.av HM.out.la w3 (HA.out.below (HB0.out.trans (HB3.out.mono HB0.out.size))))
    obtain ⟨p0, p1, p2⟩ := HBX.out w3 HB3.out
    go_wp2_with fail
    refine CM.out.mono ?_
    rintro e w4 ⟨rfl, hb4⟩
    have HB4 := Lib.hid (HB3.out.trans (hb4.mono HB3.out.size))
    clear CM hb4 p0 p1 p2
    cases hmn : manyF m.axes with
    | true =>
      have HN := Lib.hid (HEM.out hmn)
      clear hmn HEM HEL HEO
      go_wp2_with fail
      go_ret2
      exact ⟨_, by rw [HN.out.1] <;> rfl, by rw [HN.out.2]; exact .nil, HB0.out.trans (HB4.out.mono HB0.out.size)⟩
    | false =>
      have HMN := Lib.hid hmn
      have HB4w : Hid (Below w.heap.size w w4) := HB0.out.trans (HB4.out.mono HB0.out.size)
      have hhl : HLT.out = HLT.out := rfl
      have hw4 : W1.heap.size ≤ w4.heap.size := HB4.out.size
      have hcn : (combF m.axes).length ≤ 1000 := by
        have := of_decide_eq_false (show decide (256 < prodL m.axes) = false from hmn)
        rw [prod_len] at this
        omega
      have ha8 := HOK.out.a8
      obtain ⟨p0, p1, p2⟩ := HBX.out w4 HB4.out
      clear hmn HEM hhl
      by_cases hax : m.axes = []
      · have tax : decide ((0 : Int) < (m.axes.length : Int)) = false := by rw [hax]; rfl
        have taxb : ¬ (0 : Int) < (m.axes.length : Int) := by rw [hax]; simp
        have taxn : decide (0 < m.axes.length) = false := by rw [hax]; rfl
        have HF0 : Hid (fstOut m = []) := by unfold Hid fstOut combsF; rw [if_pos hax]; rfl
        obtain ⟨w5, hw5⟩ : ∃ w5 : World, w5 = w4 := ⟨_, rfl⟩
        subst hw5
        have HBX5 : Hid (∀ W', Below w5.heap.size w5 W' → W'.cell? ⟨w.heap.size, 0, none⟩ = some (.slice ao m.axes.length ac) ∧ W'.cell? ⟨w.heap.size, 1, none⟩ = some (.slice io m.incl.length ic) ∧ W'.cell? ⟨w.heap.size, 2, none⟩ = some (.slice eo m.excl.length ec)) := fun W' hb => HBX.out W' (HB4.out.trans (hb.mono HB4.out.size))
        have HI5 := Lib.hid (HI.out.below HB4w.out)
        have HB5w := HB4w
        have hs5 : Hid (w.heap.size ≤ w5.heap.size) := HB4w.out.size
        have HOF : Hid (EVars.Own 36 w5.heap.size (fun _ => True) w5 (fstOut m) (.slice none 0 0)) := by unfold Hid; rw [HF0.out]; exact .nil
        have HBF : Hid (Below w5.heap.size w5 w5) := Below.refl _ _
        clear hax HA HE HB4 HB3 HB0 HBX HB4w HF0
        as_aux_lemma =>
        go_wp2_with fail
        try rw [taxn]
        go_loopg [6, 7] 0 (fun (f : Nat) (t6 t7 : Value) (wr : World) => t6 = .slice none 0 0 ∧ t7 = .int .i64 0 ∧ f = 0 ∧ w5 = wr)
        case atStart => exact ⟨rfl, rfl, rfl, rfl⟩
        case round =>
          obtain ⟨rfl, rfl, rfl, rfl⟩ := hrel
          go_wp2_with fail
          clear p0 p1 p2
          go_loopg [6, 10] m.incl.length (Oi2Rel m w5)
          case atStart => exact ⟨0, rfl, Nat.zero_le _, rfl, by rw [incK_zero]; exact HOF.out, HBF.out⟩
          case round =>
            obtain ⟨wz, hwz⟩ : ∃ wz : World, wz = wr := ⟨_, rfl⟩
            subst hwz
            obtain ⟨i, rfl, hi, rfl, ho, hbel⟩ := hrel
            have HBC := Lib.hid hbel
            have HLI := Lib.hid (inc_len HMN.out i)
            obtain ⟨oo, oc, rfl⟩ := ho.form
            have HOC := Lib.hid ho
            clear ho hbel HOF HBF
            obtain ⟨p0, p1, p2⟩ := HBX5.out wz HBC.out
            have hi1 := HOK.out.i1
            by_cases hlt : i < m.incl.length
            · have hii : (i : Int) < (m.incl.length : Int) := by omega
              have hcw := HM.out.inc _ (List.getElem_mem hlt)
              have hcs := HSM.out _ (List.getElem_mem hlt)
              have HSN := Lib.hid (incK_step hlt)
              have hlw := inc_wf HM.out HOK.out i
              obtain ⟨bi, oi, ai, ci, hio, hbi, yi0, hri⟩ := evars_at (HI5.out.below HBC.out) hlt
              subst hio
              have HRI := Lib.hid hri
              have HYI : Hid (∀ W', Below wz.heap.size wz W' → W'.cell? ⟨bi, oi + i, none⟩ = some (.slice ai m.incl[i].length ci)) := fun W' h => (h.cell (p := ⟨bi, oi + i, none⟩) hbi).trans yi0
              have HAS : Hid (∀ W', Below wz.heap.size wz W' → Calls Tryz.prog 32 #[.slice ai m.incl[i].length ci] W' fun e w' => ∃ ao cap, e = .returned (.slice ao m.incl[i].length cap) ∧ EVar.Row (fun b => (b < w5.heap.size ∧ b < W'.heap.size) ∨ W'.heap.size ≤ b) w' (instF m.incl[i]) (.slice ao m.incl[i].length cap) ∧ Below W'.heap.size W' w') := fun W' h => rascending_any m.incl[i] _ (fun b => b < w5.heap.size) hcs (fun x hx => (hcw.2 x hx).1) W' ((hri.below h).mono fun b hb => by have := hs5.out; omega)
              have HD : Hid ((incK m i).any (fun l => agrF l m.incl[i]) = (false || ((incK m i).drop 0).any (fun l => agrF l m.incl[i]))) := by unfold Hid; rw [Bool.false_or, List.drop_zero]
              clear hri yi0
              generalize m.incl[i] = c at *
              generalize hLK : incK m i = L at *
              have hFL : L.length ≤ 2000 := by have := HLI.out; omega
              have HFL := Lib.hid hFL
              have HLW := Lib.hid hlw
              have HCW := Lib.hid hcw
              clear hlw hcw hcs hLK HLI
              generalize hdd : L.any (fun l => agrF l c) = dd at HSN HD
              clear hdd
              as_aux_lemma =>
              go_wp2_with fail
              clear p0 p1 p2
              go_loopg [11, 12] L.length (OkRel L (fun l => agrF l c) dd L.length wz)
              case atStart => exact ⟨0, false, rfl, rfl, Nat.zero_le _, rfl, HD.out, Below.refl _ _⟩
              case round =>
                obtain ⟨wk, hwk⟩ : ∃ wk : World, wk = wr := ⟨_, rfl⟩
                subst hwk
                obtain ⟨k, d, rfl, rfl, hk, rfl, hd, hbk⟩ := hrel
                have HDK := Lib.hid hd
                have HBK := Lib.hid hbk
                clear hd hbk
                obtain ⟨p0, p1, p2⟩ := HBX5.out wk (HBC.out.trans (HBK.out.mono HBC.out.size))
                have hyi := HYI.out wk HBK.out
                by_cases hlk : k < L.length
                · have hkk : (k : Int) < (L.length : Int) := by omega
                  obtain ⟨bo, off, ak, ck, hoo, hbo, yk0, hrk⟩ := evars_at (((HOC.out.below HBK.out).row (B' := fun _ => True) (fun _ _ => trivial) (fun _ _ => trivial))) hlk
                  subst hoo
                  cases d with
                  | true =>
                    have hdt : dd = true := by rw [HDK.out]; rfl
                    as_aux_lemma =>
                    go_upto_region 26 with fail
                    go_quiet (fail)
                    go_wp2_with fail
                    go_roundg (L.length - (k + 1))
                    case measure => omega
                    case rel => exact ⟨k + 1, true, by go_num, rfl, by omega, rfl, by rw [hdt]; rfl, HBK.out.trans ((below_drN _ _).mono HBK.out.size)⟩
                  | false =>
                    have hwk := HLW.out _ (List.getElem_mem hlk)
                    have AG : Hid (∀ W', Below wk.heap.size wk W' → Calls Tryz.prog 33 #[.slice ak L[k].length ck, .slice ai c.length ci] W' fun e w' => e = .returned (.bool (agrF L[k] c)) ∧ Below W'.heap.size W' w') := fun W' h => ragree_any L[k] c _ _ _ _ hwk.1 HCW.out.1 (fun x hx => (hwk.2 x hx).2) (fun x hx => (HCW.out.2 x hx).2) W' (hrk.below h) (HRI.out.below (HBK.out.trans (h.mono HBK.out.size)))
                    have hnx := any_at hlk (show dd = (L.drop k).any (fun l => agrF l c) by rw [HDK.out, Bool.false_or])
                    have HNX : Hid (dd = (agrF L[k] c || (L.drop (k + 1)).any (fun l => agrF l c))) := by
                      unfold Hid
                      cases h : agrF L[k] c with
                      | true => rw [hnx.1 h]; rfl
                      | false => rw [Bool.false_or]; exact hnx.2 h
                    have HBD : Hid (Below wk.heap.size wk wk.drew) := (Below.refl _ wk).drew
                    clear hwk hnx hrk HDK
                    generalize agrF L[k] c = de at *
                    generalize L[k].length = lk at *
                    as_aux_lemma =>
                    go_upto_region 26 with fail
                    go_still_tail 11, (by kernel_rfl)
                    change wpList _ _ _ _ _ (World.drew _)
                    go_wp2_with fail
                    refine (AG.out _ HBD.out).mono ?_
                    rintro e w7 ⟨rfl, hb7⟩
                    have HB7 := Lib.hid (HBK.out.trans ((HBD.out.trans (hb7.mono HBD.out.size)).mono HBK.out.size))
                    clear hb7 AG
                    go_wp2_with fail
                    go_roundg (L.length - (k + 1))
                    case measure => omega
                    case rel => exact ⟨k + 1, de, by go_num, rfl, by omega, rfl, HNX.out, HB7.out⟩
                · have hkk : ¬ (k : Int) < (L.length : Int) := by omega
                  have he : k = L.length := by omega
                  have hdd : dd = d := by rw [HDK.out, he, List.drop_length]; simp
                  clear HDK he
                  have HOC := Lib.hid (HOC.out.below HBK.out)
                  have HAS := Lib.hid (fun W' (h : RowKit.Below wk.heap.size wk W') => HAS.out W' (HBK.out.trans (h.mono HBK.out.size)))
                  have HBC := Lib.hid (HBC.out.trans (HBK.out.mono HBC.out.size))
                  subst hdd
                  cases dd with
                  | true =>
                    have HN := Lib.hid (HSN.out.1 rfl)
                    clear HSN HAS
                    as_aux_lemma =>
                    go_wp2_with fail
                    go_roundg (m.incl.length - (i + 1))
                    case measure => omega
                    case rel => exact ⟨i + 1, by go_num, by omega, rfl, by rw [HN.out]; exact HOC.out, HBC.out⟩
                  | false =>
                    have HN := Lib.hid (HSN.out.2 rfl)
                    clear HSN
                    as_aux_lemma =>
                    go_wp2_with fail
                    refine (HAS.out _ (Below.refl _ _)).mono ?_
                    rintro e w7 ⟨ro, rc, rfl, hr7, hb7⟩
                    have hb8 : Below wk.heap.size wk (w7.alloc (.cells #[.slice ro c.length rc] 36 (0, 0))) := hb7.trans (((Below.refl _ w7).alloc (Nat.le_refl _) _).mono hb7.size)
                    have HB8 := Lib.hid (HBC.out.trans (hb8.mono HBC.out.size))
                    have HO8 := Lib.hid (HOC.out.below hb8)
                    have HX8 : Hid (EVars.R (fun q => True ∧ (Value.slice oo L.length oc).ownBlock ≠ some q) (w7.alloc (.cells #[.slice ro c.length rc] 36 (0, 0))) (instF c) [.slice ro c.length rc]) := evars_mk ((hr7.below ((Below.refl _ w7).alloc (Nat.le_refl _) _)).mono fun q hq => ⟨trivial, fun e => by
                      have h1 := HOC.out.low q e
                      rcases hq with ⟨hq, _⟩ | hq
                      · have h2 := (fun q (hq : q < w5.heap.size) => hq) q hq; omega
                      · omega⟩)
                    have hs8 := HB8.out.size
                    clear hr7 hb7 hb8
                    go_wp2_with (first
                      | (refine wpList_build1 rfl 23 36 (.tmp 98) rfl #[.slice ro c.length rc] iV _ Tryz.underlying23 HIV.out hzV 1 hnV (by decide) (by decide) rfl rfl ?_)
                      | (refine wpList_own_push (E := EVars) rfl (.tmp 92) (.tmp 99) 23 rfl w5.heap.size 36 iV _ 24 Tryz.underlying23 HIV.out hzV hnV hyV rfl _ _ rfl HO8.out (instF c) [.slice ro c.length rc] HX8.out _ (0, 0) (hp_new rfl) rfl (by have := HFL.out; unfold maxLen; omega) (by have := HFL.out; omega) hs8 ?_))
                    intro v8 w8 hown hgrow hpu
                    obtain ⟨g8, p8, hv8⟩ := hpu.form
                    subst hv8
                    have HB9 : Hid (Below w5.heap.size w5 w8) := HB8.out.trans (below_grown hgrow hs8 (fun q e => (HO8.out.low q e).1))
                    have HO9 := Lib.hid hown
                    clear hown hgrow hpu HO8 HX8 HB8
                    go_wp2_with fail
                    go_roundg (m.incl.length - (i + 1))
                    case measure => omega
                    case rel => exact ⟨i + 1, by go_num, by omega, rfl, by rw [HN.out]; exact HO9.out, HB9.out⟩
            · have hii : ¬ (i : Int) < (m.incl.length : Int) := by omega
              have he : i = m.incl.length := by omega
              rw [he, incK_all] at HOC
              have hrow : EVars.Row (fun _ => True) wz (outF m) (.slice oo (outF m).length oc) := HOC.out.row (B' := fun _ => True) (fun _ _ => trivial) (fun _ _ => trivial)
              have hlen : (incK m i).length = (outF m).length := by rw [he, incK_all]
              rw [hlen]
              have HROW := Lib.hid hrow
              have HE1 := Lib.hid (fun h => HEL.out HMN.out h)
              have HE2 := Lib.hid (fun h => HEO.out HMN.out h)
              have HFIN : Hid (Below w.heap.size w wz) := HB5w.out.trans (HBC.out.mono HB5w.out.size)
              clear HOC hrow hlen he HEL HEO HLI
              by_cases hbig : 256 < (outF m).length
              · have t5 : (256 : Int) < ((outF m).length : Int) := by omega
                have HN := Lib.hid (HE1.out hbig)
                clear HE1 HE2 hbig
                as_aux_lemma =>
                go_wp2_with fail
                go_ret2
                exact ⟨_, by rw [HN.out.1] <;> rfl, by rw [HN.out.2]; exact .nil, HFIN.out⟩
              · have t5 : decide ((256 : Int) < ((outF m).length : Int)) = false := decide_eq_false (by omega)
                have t5b : ¬ (256 : Int) < ((outF m).length : Int) := by omega
                have HN := Lib.hid (HE2.out hbig)
                clear HE1 HE2 hbig
                as_aux_lemma =>
                go_wp2_with fail
                go_ret2
                exact ⟨_, by rw [HN.out.1] <;> rfl, by rw [HN.out.2]; exact HROW.out, HFIN.out⟩
      · have tax : (0 : Int) < (m.axes.length : Int) := by have := List.length_pos_iff.2 hax; omega
        have RC := Lib.hid (rcomb_any m.axes (fun a ha => by have := HOK.out.av a ha; omega) [] (fun b => b < w.heap.size) (.slice ao m.axes.length ac) (.slice none 0 0) w4 (fun q hq => by have := HB4w.out.size; omega) (HA.out.below HB4w.out) .nil hcn (by simp; omega))
        have HCC : Hid (combsF m.axes = combF m.axes) := by unfold Hid combsF; rw [if_neg hax]
        go_wp2_with fail
        refine RC.out.mono ?_
        rintro e w5 ⟨lo, lc, rfl, hall, hb5⟩
        have hmap : (combF m.axes).map (fun c => [] ++ c) = combF m.axes := by simp
        rw [hmap] at hall
        have HC := Lib.hid HCC.out
        have HALL : Hid (EVars.Row (fun q => q < w5.heap.size) w5 (combF m.axes) (.slice lo (combF m.axes).length lc)) := hall.lt.mono fun q hq => hq.2
        have HBX5 : Hid (∀ W', Below w5.heap.size w5 W' → W'.cell? ⟨w.heap.size, 0, none⟩ = some (.slice ao m.axes.length ac) ∧ W'.cell? ⟨w.heap.size, 1, none⟩ = some (.slice io m.incl.length ic) ∧ W'.cell? ⟨w.heap.size, 2, none⟩ = some (.slice eo m.excl.length ec)) := fun W' hb => HBX.out W' (HB4.out.trans ((hb5.trans (hb.mono hb5.size)).mono HB4.out.size))
        have HB5w : Hid (Below w.heap.size w w5) := HB4w.out.trans (hb5.mono HB4w.out.size)
        have HI5 := Lib.hid (HI.out.below HB5w.out)
        have HE5 := Lib.hid (HE.out.below HB5w.out)
        have hs5 : Hid (w.heap.size ≤ w5.heap.size) := HB5w.out.size
        clear hall hmap hb5 RC HCC hax HA HE HB4 HB3 HB0 HBX HB4w p0 p1 p2
        generalize combF m.axes = C at *
        as_aux_lemma =>
        go_wp2_with fail
        go_loopg [6, 7] C.length (Oi1Rel m C w5)
        case atStart => exact ⟨0, rfl, Nat.zero_le _, rfl, .nil, Below.refl _ _⟩
        case round =>
          obtain ⟨wz, hwz⟩ : ∃ wz : World, wz = wr := ⟨_, rfl⟩
          subst hwz
          obtain ⟨i, rfl, hi, rfl, ho, hbel⟩ := hrel
          have HBC := Lib.hid hbel
          have HLI := Lib.hid (fst_len HMN.out (C.take i) (R := C.drop i) (by rw [HC.out, List.take_append_drop]))
          obtain ⟨oo, oc, rfl⟩ := ho.form
          have HOC := Lib.hid ho
          clear ho hbel
          by_cases hlt : i < C.length
          · have hii : (i : Int) < (C.length : Int) := by omega
            obtain ⟨hcw, hc8, _⟩ := comb_wf HM.out HOK.out (c := C[i]) (by rw [HC.out]; exact List.getElem_mem hlt)
            have HSN : Hid ((exclF m C[i] = true → outK m (C.take (i + 1)) = outK m (C.take i)) ∧ (exclF m C[i] = false → outK m (C.take (i + 1)) = outK m (C.take i) ++ [instF C[i]])) := by unfold Hid; rw [List.take_succ_eq_append_getElem hlt]; exact outK_snoc m _ _
            obtain ⟨bi, oi, ai, ci, hio, hbi, yi0, hri⟩ := evars_at (HALL.out.below HBC.out) hlt
            subst hio
            have HRI := Lib.hid hri
            have HYI : Hid (∀ W', Below wz.heap.size wz W' → W'.cell? ⟨bi, oi + i, none⟩ = some (.slice ai C[i].length ci)) := fun W' h => (h.cell (p := ⟨bi, oi + i, none⟩) hbi).trans yi0
            have HAS : Hid (∀ W', Below wz.heap.size wz W' → Calls Tryz.prog 32 #[.slice ai C[i].length ci] W' fun e w' => ∃ ao cap, e = .returned (.slice ao C[i].length cap) ∧ EVar.Row (fun b => (b < w5.heap.size ∧ b < W'.heap.size) ∨ W'.heap.size ≤ b) w' (instF C[i]) (.slice ao C[i].length cap) ∧ Below W'.heap.size W' w') := fun W' h => rascending_any C[i] _ (fun b => b < w5.heap.size) (by omega) (fun x hx => (hcw.2 x hx).1) W' (hri.below h)
            have HD : Hid (exclF m C[i] = (false || (m.excl.drop 0).any (matF C[i]))) := by unfold Hid; rw [Bool.false_or, List.drop_zero]; rfl
            clear hri yi0
            generalize C[i] = c at *
            generalize outK m (C.take i) = L at *
            have hFL : L.length ≤ 2000 := by have := HLI.out; omega
            have HFL := Lib.hid hFL
            have HCW := Lib.hid hcw
            clear hcw HLI
            generalize hdd : exclF m c = dd at HSN HD
            clear hdd
            as_aux_lemma =>
            go_wp2_with fail
            go_loopg [8, 9] m.excl.length (OkRel m.excl (matF c) dd m.excl.length wz)
            case atStart => exact ⟨0, false, rfl, rfl, Nat.zero_le _, rfl, HD.out, Below.refl _ _⟩
            case round =>
              obtain ⟨wk, hwk⟩ : ∃ wk : World, wk = wr := ⟨_, rfl⟩
              subst hwk
              obtain ⟨k, d, rfl, rfl, hk, rfl, hd, hbk⟩ := hrel
              have HDK := Lib.hid hd
              have HBK := Lib.hid hbk
              clear hd hbk
              have hle := HM.out.le
              obtain ⟨p0, p1, p2⟩ := HBX5.out wk (HBC.out.trans (HBK.out.mono HBC.out.size))
              have hyi := HYI.out wk HBK.out
              by_cases hlk : k < m.excl.length
              · have hkk : (k : Int) < (m.excl.length : Int) := by omega
                obtain ⟨bo, off, ak, ck, hoo, hbo, yk0, hrk⟩ := evars_at (HE5.out.below (HBC.out.trans (HBK.out.mono HBC.out.size))) hlk
                subst hoo
                cases d with
                | true =>
                  have hdt : dd = true := by rw [HDK.out]; rfl
                  as_aux_lemma =>
                  go_upto_region 16 with fail
                  go_quiet (fail)
                  go_wp2_with fail
                  go_roundg (m.excl.length - (k + 1))
                  case measure => omega
                  case rel => exact ⟨k + 1, true, by go_num, rfl, by omega, rfl, by rw [hdt]; rfl, HBK.out.trans ((below_drN _ _).mono HBK.out.size)⟩
                | false =>
                  have hwk := HM.out.exc _ (List.getElem_mem hlk)
                  have AG : Hid (∀ W', Below wk.heap.size wk W' → Calls Tryz.prog 16 #[.slice ai c.length ci, .slice ak m.excl[k].length ck] W' fun e w' => e = .returned (.bool (matF c m.excl[k])) ∧ Below W'.heap.size W' w') := fun W' h => rmatches_any c m.excl[k] _ _ _ _ HCW.out.1 hwk.1 (fun x hx => (HCW.out.2 x hx).2) (fun x hx => (hwk.2 x hx).2) W' (HRI.out.below (HBK.out.trans (h.mono HBK.out.size))) (hrk.below h)
                  have hnx := any_at hlk (show dd = (m.excl.drop k).any (matF c) by rw [HDK.out, Bool.false_or])
                  have HNX : Hid (dd = (matF c m.excl[k] || (m.excl.drop (k + 1)).any (matF c))) := by
                    unfold Hid
                    cases h : matF c m.excl[k] with
                    | true => rw [hnx.1 h]; rfl
                    | false => rw [Bool.false_or]; exact hnx.2 h
                  have HBD : Hid (Below wk.heap.size wk wk.drew) := (Below.refl _ wk).drew
                  clear hwk hnx hrk HDK
                  generalize matF c m.excl[k] = de at *
                  generalize m.excl[k].length = lk at *
                  as_aux_lemma =>
                  go_upto_region 16 with fail
                  go_still_tail 11, (by kernel_rfl)
                  change wpList _ _ _ _ _ (World.drew _)
                  go_wp2_with fail
                  refine (AG.out _ HBD.out).mono ?_
                  rintro e w7 ⟨rfl, hb7⟩
                  have HB7 := Lib.hid (HBK.out.trans ((HBD.out.trans (hb7.mono HBD.out.size)).mono HBK.out.size))
                  clear hb7 AG
                  go_wp2_with fail
                  go_roundg (m.excl.length - (k + 1))
                  case measure => omega
                  case rel => exact ⟨k + 1, de, by go_num, rfl, by omega, rfl, HNX.out, HB7.out⟩
              · have hkk : ¬ (k : Int) < (m.excl.length : Int) := by omega
                have he : k = m.excl.length := by omega
                have hdd : dd = d := by rw [HDK.out, he, List.drop_length]; simp
                clear HDK he
                have HOC := Lib.hid (HOC.out.below HBK.out)
                have HAS := Lib.hid (fun W' (h : RowKit.Below wk.heap.size wk W') => HAS.out W' (HBK.out.trans (h.mono HBK.out.size)))
                have HBC := Lib.hid (HBC.out.trans (HBK.out.mono HBC.out.size))
                subst hdd
                cases dd with
                | true =>
                  have HN := Lib.hid (HSN.out.1 rfl)
                  clear HSN HAS
                  as_aux_lemma =>
                  go_wp2_with fail
                  go_roundg (C.length - (i + 1))
                  case measure => omega
                  case rel => exact ⟨i + 1, by go_num, by omega, rfl, by rw [HN.out]; exact HOC.out, HBC.out⟩
                | false =>
                  have HN := Lib.hid (HSN.out.2 rfl)
                  clear HSN
                  as_aux_lemma =>
                  go_wp2_with fail
                  refine (HAS.out _ (Below.refl _ _)).mono ?_
                  rintro e w7 ⟨ro, rc, rfl, hr7, hb7⟩
                  have hb8 : Below wk.heap.size wk (w7.alloc (.cells #[.slice ro c.length rc] 36 (0, 0))) := hb7.trans (((Below.refl _ w7).alloc (Nat.le_refl _) _).mono hb7.size)
                  have HB8 := Lib.hid (HBC.out.trans (hb8.mono HBC.out.size))
                  have HO8 := Lib.hid (HOC.out.below hb8)
                  have HX8 : Hid (EVars.R (fun q => True ∧ (Value.slice oo L.length oc).ownBlock ≠ some q) (w7.alloc (.cells #[.slice ro c.length rc] 36 (0, 0))) (instF c) [.slice ro c.length rc]) := evars_mk ((hr7.below ((Below.refl _ w7).alloc (Nat.le_refl _) _)).mono fun q hq => ⟨trivial, fun e => by
                    have h1 := HOC.out.low q e
                    rcases hq with ⟨hq, _⟩ | hq
                    · have h2 := (fun q (hq : q < w5.heap.size) => hq) q hq; omega
                    · omega⟩)
                  have hs8 := HB8.out.size
                  clear hr7 hb7 hb8
                  go_wp2_with (first
                    | (refine wpList_build1 rfl 23 36 (.tmp 61) rfl #[.slice ro c.length rc] iV _ Tryz.underlying23 HIV.out hzV 1 hnV (by decide) (by decide) rfl rfl ?_)
                    | (refine wpList_own_push (E := EVars) rfl (.tmp 56) (.tmp 62) 23 rfl w5.heap.size 36 iV _ 24 Tryz.underlying23 HIV.out hzV hnV hyV rfl _ _ rfl HO8.out (instF c) [.slice ro c.length rc] HX8.out _ (0, 0) (hp_new rfl) rfl (by have := HFL.out; unfold maxLen; omega) (by have := HFL.out; omega) hs8 ?_))
                  intro v8 w8 hown hgrow hpu
                  obtain ⟨g8, p8, hv8⟩ := hpu.form
                  subst hv8
                  have HB9 : Hid (Below w5.heap.size w5 w8) := HB8.out.trans (below_grown hgrow hs8 (fun q e => (HO8.out.low q e).1))
                  have HO9 := Lib.hid hown
                  clear hown hgrow hpu HO8 HX8 HB8
                  go_wp2_with fail
                  go_roundg (C.length - (i + 1))
                  case measure => omega
                  case rel => exact ⟨i + 1, by go_num, by omega, rfl, by rw [HN.out]; exact HO9.out, HB9.out⟩
          · have hii : ¬ (i : Int) < (C.length : Int) := by omega
            have he : i = C.length := by omega
            rw [he, List.take_length, ← HC.out, outK_all] at HOC
            have hlen : (outK m (C.take i)).length = (fstOut m).length := by rw [he, List.take_length, ← HC.out, outK_all]
            rw [he, List.take_length, ← HC.out, outK_all]
            have HOF := Lib.hid HOC.out
            have HBF := Lib.hid HBC.out
            clear HOC HBC HLI hlen he hlt HALL
            as_aux_lemma =>
            go_wp2_with fail
            go_loopg [6, 10] m.incl.length (Oi2Rel m w5)
            case atStart => exact ⟨0, rfl, Nat.zero_le _, rfl, by rw [incK_zero]; exact HOF.out, HBF.out⟩
            case round =>
              obtain ⟨wz, hwz⟩ : ∃ wz : World, wz = wr := ⟨_, rfl⟩
              subst hwz
              obtain ⟨i, rfl, hi, rfl, ho, hbel⟩ := hrel
              have HBC := Lib.hid hbel
              have HLI := Lib.hid (inc_len HMN.out i)
              obtain ⟨oo, oc, rfl⟩ := ho.form
              have HOC := Lib.hid ho
              clear ho hbel HOF HBF
              obtain ⟨p0, p1, p2⟩ := HBX5.out wz HBC.out
              have hi1 := HOK.out.i1
              by_cases hlt : i < m.incl.length
              · have hii : (i : Int) < (m.incl.length : Int) := by omega
                have hcw := HM.out.inc _ (List.getElem_mem hlt)
                have hcs := HSM.out _ (List.getElem_mem hlt)
                have HSN := Lib.hid (incK_step hlt)
                have hlw := inc_wf HM.out HOK.out i
                obtain ⟨bi, oi, ai, ci, hio, hbi, yi0, hri⟩ := evars_at (HI5.out.below HBC.out) hlt
                subst hio
                have HRI := Lib.hid hri
                have HYI : Hid (∀ W', Below wz.heap.size wz W' → W'.cell? ⟨bi, oi + i, none⟩ = some (.slice ai m.incl[i].length ci)) := fun W' h => (h.cell (p := ⟨bi, oi + i, none⟩) hbi).trans yi0
                have HAS : Hid (∀ W', Below wz.heap.size wz W' → Calls Tryz.prog 32 #[.slice ai m.incl[i].length ci] W' fun e w' => ∃ ao cap, e = .returned (.slice ao m.incl[i].length cap) ∧ EVar.Row (fun b => (b < w5.heap.size ∧ b < W'.heap.size) ∨ W'.heap.size ≤ b) w' (instF m.incl[i]) (.slice ao m.incl[i].length cap) ∧ Below W'.heap.size W' w') := fun W' h => rascending_any m.incl[i] _ (fun b => b < w5.heap.size) hcs (fun x hx => (hcw.2 x hx).1) W' ((hri.below h).mono fun b hb => by have := hs5.out; omega)
                have HD : Hid ((incK m i).any (fun l => agrF l m.incl[i]) = (false || ((incK m i).drop 0).any (fun l => agrF l m.incl[i]))) := by unfold Hid; rw [Bool.false_or, List.drop_zero]
                clear hri yi0
                generalize m.incl[i] = c at *
                generalize hLK : incK m i = L at *
                have hFL : L.length ≤ 2000 := by have := HLI.out; omega
                have HFL := Lib.hid hFL
                have HLW := Lib.hid hlw
                have HCW := Lib.hid hcw
                clear hlw hcw hcs hLK HLI
                generalize hdd : L.any (fun l => agrF l c) = dd at HSN HD
                clear hdd
                as_aux_lemma =>
                go_wp2_with fail
                clear p0 p1 p2
                go_loopg [11, 12] L.length (OkRel L (fun l => agrF l c) dd L.length wz)
                case atStart => exact ⟨0, false, rfl, rfl, Nat.zero_le _, rfl, HD.out, Below.refl _ _⟩
                case round =>
                  obtain ⟨wk, hwk⟩ : ∃ wk : World, wk = wr := ⟨_, rfl⟩
                  subst hwk
                  obtain ⟨k, d, rfl, rfl, hk, rfl, hd, hbk⟩ := hrel
                  have HDK := Lib.hid hd
                  have HBK := Lib.hid hbk
                  clear hd hbk
                  obtain ⟨p0, p1, p2⟩ := HBX5.out wk (HBC.out.trans (HBK.out.mono HBC.out.size))
                  have hyi := HYI.out wk HBK.out
                  by_cases hlk : k < L.length
                  · have hkk : (k : Int) < (L.length : Int) := by omega
                    obtain ⟨bo, off, ak, ck, hoo, hbo, yk0, hrk⟩ := evars_at (((HOC.out.below HBK.out).row (B' := fun _ => True) (fun _ _ => trivial) (fun _ _ => trivial))) hlk
                    subst hoo
                    cases d with
                    | true =>
                      have hdt : dd = true := by rw [HDK.out]; rfl
                      as_aux_lemma =>
                      go_upto_region 26 with fail
                      go_quiet (fail)
                      go_wp2_with fail
                      go_roundg (L.length - (k + 1))
                      case measure => omega
                      case rel => exact ⟨k + 1, true, by go_num, rfl, by omega, rfl, by rw [hdt]; rfl, HBK.out.trans ((below_drN _ _).mono HBK.out.size)⟩
                    | false =>
                      have hwk := HLW.out _ (List.getElem_mem hlk)
                      have AG : Hid (∀ W', Below wk.heap.size wk W' → Calls Tryz.prog 33 #[.slice ak L[k].length ck, .slice ai c.length ci] W' fun e w' => e = .returned (.bool (agrF L[k] c)) ∧ Below W'.heap.size W' w') := fun W' h => ragree_any L[k] c _ _ _ _ hwk.1 HCW.out.1 (fun x hx => (hwk.2 x hx).2) (fun x hx => (HCW.out.2 x hx).2) W' (hrk.below h) (HRI.out.below (HBK.out.trans (h.mono HBK.out.size)))
                      have hnx := any_at hlk (show dd = (L.drop k).any (fun l => agrF l c) by rw [HDK.out, Bool.false_or])
                      have HNX : Hid (dd = (agrF L[k] c || (L.drop (k + 1)).any (fun l => agrF l c))) := by
                        unfold Hid
                        cases h : agrF L[k] c with
                        | true => rw [hnx.1 h]; rfl
                        | false => rw [Bool.false_or]; exact hnx.2 h
                      have HBD : Hid (Below wk.heap.size wk wk.drew) := (Below.refl _ wk).drew
                      clear hwk hnx hrk HDK
                      generalize agrF L[k] c = de at *
                      generalize L[k].length = lk at *
                      as_aux_lemma =>
                      go_upto_region 26 with fail
                      go_still_tail 11, (by kernel_rfl)
                      change wpList _ _ _ _ _ (World.drew _)
                      go_wp2_with fail
                      refine (AG.out _ HBD.out).mono ?_
                      rintro e w7 ⟨rfl, hb7⟩
                      have HB7 := Lib.hid (HBK.out.trans ((HBD.out.trans (hb7.mono HBD.out.size)).mono HBK.out.size))
                      clear hb7 AG
                      go_wp2_with fail
                      go_roundg (L.length - (k + 1))
                      case measure => omega
                      case rel => exact ⟨k + 1, de, by go_num, rfl, by omega, rfl, HNX.out, HB7.out⟩
                  · have hkk : ¬ (k : Int) < (L.length : Int) := by omega
                    have he : k = L.length := by omega
                    have hdd : dd = d := by rw [HDK.out, he, List.drop_length]; simp
                    clear HDK he
                    have HOC := Lib.hid (HOC.out.below HBK.out)
                    have HAS := Lib.hid (fun W' (h : RowKit.Below wk.heap.size wk W') => HAS.out W' (HBK.out.trans (h.mono HBK.out.size)))
                    have HBC := Lib.hid (HBC.out.trans (HBK.out.mono HBC.out.size))
                    subst hdd
                    cases dd with
                    | true =>
                      have HN := Lib.hid (HSN.out.1 rfl)
                      clear HSN HAS
                      as_aux_lemma =>
                      go_wp2_with fail
                      go_roundg (m.incl.length - (i + 1))
                      case measure => omega
                      case rel => exact ⟨i + 1, by go_num, by omega, rfl, by rw [HN.out]; exact HOC.out, HBC.out⟩
                    | false =>
                      have HN := Lib.hid (HSN.out.2 rfl)
                      clear HSN
                      as_aux_lemma =>
                      go_wp2_with fail
                      refine (HAS.out _ (Below.refl _ _)).mono ?_
                      rintro e w7 ⟨ro, rc, rfl, hr7, hb7⟩
                      have hb8 : Below wk.heap.size wk (w7.alloc (.cells #[.slice ro c.length rc] 36 (0, 0))) := hb7.trans (((Below.refl _ w7).alloc (Nat.le_refl _) _).mono hb7.size)
                      have HB8 := Lib.hid (HBC.out.trans (hb8.mono HBC.out.size))
                      have HO8 := Lib.hid (HOC.out.below hb8)
                      have HX8 : Hid (EVars.R (fun q => True ∧ (Value.slice oo L.length oc).ownBlock ≠ some q) (w7.alloc (.cells #[.slice ro c.length rc] 36 (0, 0))) (instF c) [.slice ro c.length rc]) := evars_mk ((hr7.below ((Below.refl _ w7).alloc (Nat.le_refl _) _)).mono fun q hq => ⟨trivial, fun e => by
                        have h1 := HOC.out.low q e
                        rcases hq with ⟨hq, _⟩ | hq
                        · have h2 := (fun q (hq : q < w5.heap.size) => hq) q hq; omega
                        · omega⟩)
                      have hs8 := HB8.out.size
                      clear hr7 hb7 hb8
                      go_wp2_with (first
                        | (refine wpList_build1 rfl 23 36 (.tmp 98) rfl #[.slice ro c.length rc] iV _ Tryz.underlying23 HIV.out hzV 1 hnV (by decide) (by decide) rfl rfl ?_)
                        | (refine wpList_own_push (E := EVars) rfl (.tmp 92) (.tmp 99) 23 rfl w5.heap.size 36 iV _ 24 Tryz.underlying23 HIV.out hzV hnV hyV rfl _ _ rfl HO8.out (instF c) [.slice ro c.length rc] HX8.out _ (0, 0) (hp_new rfl) rfl (by have := HFL.out; unfold maxLen; omega) (by have := HFL.out; omega) hs8 ?_))
                      intro v8 w8 hown hgrow hpu
                      obtain ⟨g8, p8, hv8⟩ := hpu.form
                      subst hv8
                      have HB9 : Hid (Below w5.heap.size w5 w8) := HB8.out.trans (below_grown hgrow hs8 (fun q e => (HO8.out.low q e).1))
                      have HO9 := Lib.hid hown
                      clear hown hgrow hpu HO8 HX8 HB8
                      go_wp2_with fail
                      go_roundg (m.incl.length - (i + 1))
                      case measure => omega
                      case rel => exact ⟨i + 1, by go_num, by omega, rfl, by rw [HN.out]; exact HO9.out, HB9.out⟩
              · have hii : ¬ (i : Int) < (m.incl.length : Int) := by omega
                have he : i = m.incl.length := by omega
                rw [he, incK_all] at HOC
                have hrow : EVars.Row (fun _ => True) wz (outF m) (.slice oo (outF m).length oc) := HOC.out.row (B' := fun _ => True) (fun _ _ => trivial) (fun _ _ => trivial)
                have hlen : (incK m i).length = (outF m).length := by rw [he, incK_all]
                rw [hlen]
                have HROW := Lib.hid hrow
                have HE1 := Lib.hid (fun h => HEL.out HMN.out h)
                have HE2 := Lib.hid (fun h => HEO.out HMN.out h)
                have HFIN : Hid (Below w.heap.size w wz) := HB5w.out.trans (HBC.out.mono HB5w.out.size)
                clear HOC hrow hlen he HEL HEO HLI
                by_cases hbig : 256 < (outF m).length
                · have t5 : (256 : Int) < ((outF m).length : Int) := by omega
                  have HN := Lib.hid (HE1.out hbig)
                  clear HE1 HE2 hbig
                  as_aux_lemma =>
                  go_wp2_with fail
                  go_ret2
                  exact ⟨_, by rw [HN.out.1] <;> rfl, by rw [HN.out.2]; exact .nil, HFIN.out⟩
                · have t5 : decide ((256 : Int) < ((outF m).length : Int)) = false := decide_eq_false (by omega)
                  have t5b : ¬ (256 : Int) < ((outF m).length : Int) := by omega
                  have HN := Lib.hid (HE2.out hbig)
                  clear HE1 HE2 hbig
                  as_aux_lemma =>
                  go_wp2_with fail
                  go_ret2
                  exact ⟨_, by rw [HN.out.1] <;> rfl, by rw [HN.out.2]; exact HROW.out, HFIN.out⟩
  · have t1b : (((validM m : Nat) : Int) == 0) = false := by rw [beq_eq_false_iff_ne]; omega
    have t1 : (((validM m : Nat) : Int) != 0) = true := by simp [bne, t1b]
    have HN := Lib.hid (exp_bad hv)
    generalize validM m = ve at *
    go_wp2_with fail
    go_ret2
    exact ⟨_, by rw [HN.out.1] <;> rfl, by rw [HN.out.2]; exact .nil, HB0.out.trans (HB3.out.mono HB0.out.size)⟩
end Go.Proofs.YtomecnncighkgaaGreatDoor
