/- The walk over the reference's ascending. -/
import Derived.Test.YtomecnncighkgaaGreatDoorMm1m
import Derived.Test.YtomecnncighkgaaGreatDoorMr2m
import Derived.Test.YtomecnncighkgaaGreatDoorVb3
import Derived.StillTailTactics
import Derived.BigQuiet
import Derived.Test.YtomecnncighkgaaGreatDoorVa3
namespace Go.Proofs.YtomecnncighkgaaGreatDoor
open Go.RowKit Go.Deep

def AoRel (L : List VR) (w : World) (BI : Nat → Prop) (f : Nat) (t3 t4 : Value) (wr : World) : Prop :=
  ∃ i : Nat, t4 = .int .i64 (i : Nat) ∧ i ≤ L.length ∧ f = L.length - i ∧ EVar.Own 48 w.heap.size BI wr (instF (L.take i)) t3 ∧ Below w.heap.size w wr
def AiRel (x : VR) (M : List VR) (w : World) (BI : Nat → Prop) (v3 : Value) (f : Nat) (t5 t6 t7 : Value) (wr : World) : Prop :=
  ∃ (k : Nat) (d : Bool) (acc : List VR), t7 = .int .i64 (k : Nat) ∧ t6 = .bool d ∧ k ≤ M.length ∧ f = M.length - k ∧ InsI x M acc d k ∧ (d = false → acc.length ≤ k) ∧ AsSt w.heap.size BI wr M acc v3 t5 ∧ Below w.heap.size w wr
set_option maxRecDepth 100000 in
set_option maxHeartbeats 6400000 in
theorem rascending_any (L : List VR) (v : Value) (B : Nat → Prop) (hl : L.length ≤ 1000000) (hsz : ∀ x ∈ L, x.1.size ≤ 9223372036854775807) (w : World) (h : EVar.Row B w L v) :
    Calls Tryz.prog 32 #[v] w fun e w' => ∃ ao cap, e = .returned (.slice ao L.length cap) ∧ EVar.Row (fun b => (B b ∧ b < w.heap.size) ∨ w.heap.size ≤ b) w' (instF L) (.slice ao L.length cap) ∧ Below w.heap.size w w' := by
  obtain ⟨lo, lc, rfl⟩ := h.form
  have HL := Lib.hid h.lt
  have HSZ := Lib.hid hsz
  have HBI : Hid (∀ b, (B b ∧ b < w.heap.size) → b < w.heap.size) := fun b hb => hb.2
  generalize hBI : (fun b => B b ∧ b < w.heap.size) = BI at *
  have HBI : Hid (∀ b, BI b → b < w.heap.size) := by rw [← hBI]; exact fun b hb => hb.2
  have HBQ : Hid (∀ b, BI b → (B b ∧ b < w.heap.size)) := by rw [← hBI]; exact fun b hb => hb
  obtain ⟨iV, hiV, hzV, hnV, hyV⟩ := Tryz.vinfoVar'
  have HI := Lib.hid hiV
  clear h hsz hiV hBI
  go_enter Tryz.func32, Tryz.ntmps32
  go_wp2_with fail
  go_loopg [3, 4] L.length (AoRel L w BI)
  case atStart => exact ⟨0, rfl, Nat.zero_le _, rfl, .nil, Below.refl _ _⟩
  case round =>
    obtain ⟨w0, hw0⟩ : ∃ w0 : World, w0 = wr := ⟨_, rfl⟩
    subst hw0
    obtain ⟨i, rfl, hi, rfl, ho, hbel⟩ := hrel
    have HIL : Hid ((instF (L.take i)).length = i) := by unfold Hid; rw [inst_len, List.length_take]; omega
    have HSI : Hid (∀ y ∈ instF (L.take i), y.1.size ≤ 9223372036854775807) := fun y hy => HSZ.out y (List.mem_of_mem_take ((sortN_perm (nm := nmR) (L.take i)).mem_iff.1 hy))
    obtain ⟨oo, oc, rfl⟩ := ho.form
    rw [HIL.out] at ho ⊢
    have HO := Lib.hid ho
    have HB := Lib.hid hbel
    have hws := hbel.size
    clear ho hbel
    by_cases hlt : i < L.length
    · have hii : (i : Int) < (L.length : Int) := by omega
      obtain ⟨bl, off, ce, rfl, hbi, hbl, hce, hvc⟩ := HL.out.at hlt
      have HXR := Lib.hid hvc
      have hxs := HSZ.out _ (List.getElem_mem hlt)
      obtain ⟨a1, c1, a2, c2, rfl, _⟩ := evar_seven hvc
      have HXC : Hid (∀ W', Below w.heap.size w W' → W'.cell? ⟨bl, off + i * 7, none⟩ = some (.string L[i].1) ∧ W'.cell? ⟨bl, off + i * 7 + 1, none⟩ = some (.int .i64 L[i].2.kind) ∧ W'.cell? ⟨bl, off + i * 7 + 2, none⟩ = some (.bool L[i].2.bool) ∧ W'.cell? ⟨bl, off + i * 7 + 3, none⟩ = some (.int .i64 L[i].2.int) ∧ W'.cell? ⟨bl, off + i * 7 + 4, none⟩ = some (.string L[i].2.str) ∧ W'.cell? ⟨bl, off + i * 7 + 5, none⟩ = some (.slice a1 L[i].2.list.length c1) ∧ W'.cell? ⟨bl, off + i * 7 + 6, none⟩ = some (.slice a2 L[i].2.keys.length c2)) := fun W' hb => by
        have g : ∀ (j : Nat) u, [Value.string L[i].1, .int .i64 L[i].2.kind, .bool L[i].2.bool, .int .i64 L[i].2.int, .string L[i].2.str, .slice a1 L[i].2.list.length c1, .slice a2 L[i].2.keys.length c2][j]? = some u → W'.cell? ⟨bl, off + i * 7 + j, none⟩ = some u := fun j u hu => (hb.cell (p := ⟨bl, off + i * 7 + j, none⟩) hbl).trans (hce j u hu)
        exact ⟨g 0 _ rfl, g 1 _ rfl, g 2 _ rfl, g 3 _ rfl, g 4 _ rfl, g 5 _ rfl, g 6 _ rfl⟩
      have HIN := Lib.hid (inst_step hlt)
      clear hce hvc hbi
      generalize L[i] = x at *
      generalize hM : instF (L.take i) = M at *
      have HXW : Hid (∀ W', Below w.heap.size w W' → EVar.R BI W' x [.string x.1, .int .i64 x.2.kind, .bool x.2.bool, .int .i64 x.2.int, .string x.2.str, .slice a1 x.2.list.length c1, .slice a2 x.2.keys.length c2]) := fun W' hb => ElemK.R.below HXR.out hb
      clear HXR hM
      have hil : i ≤ 1000000 := by omega
      as_aux_lemma =>
      go_wp2_with fail
      go_loopg [5, 6, 7] i (AiRel x M w BI (.slice oo i oc))
      case atStart => exact ⟨0, false, [], rfl, rfl, Nat.zero_le _, by rw [HIL.out]; rfl, InsI.start x M, fun _ => Nat.le_refl _, ⟨HO.out, .nil, fun g _ e => by cases e⟩, HB.out⟩
      case round =>
        obtain ⟨k, d, acc, rfl, rfl, hk, rfl, hins, hal, has, hbw⟩ := hrel
        have HINS := Lib.hid hins
        have HAS := Lib.hid has
        have HBW := Lib.hid hbw
        have hw2 := hbw.size
        have hal2 := hins.2
        have HAL := Lib.hid hal
        obtain ⟨no, nc, rfl⟩ := has.n.form
        rw [HIL.out] at hk
        clear hins has hbw hal HB HO
        obtain ⟨d0, d1, d2, d3, d4, d5, d6⟩ := HXC.out wr HBW.out
        have HX := Lib.hid (HXW.out wr HBW.out)
        by_cases hlk : k < i
        · have hkk : (k : Int) < (i : Int) := by omega
          have hkM : k < M.length := by rw [HIL.out]; exact hlk
          have hkL : (k : Int) < (L.length : Int) := by omega
          obtain ⟨y, hy⟩ : ∃ y, M[k] = y := ⟨_, rfl⟩
          have hys := HSI.out _ (List.getElem_mem hkM)
          rw [hy] at hys
          have HCP : Hid ((d = false → ¬ natC (nmR x) (nmR y) < 0) → InsI x M (acc ++ [y]) d (k + 1)) := fun h => by have := HINS.out.copy HAL.out hkM (by rw [hy]; exact h); rwa [hy] at this
          cases d with
          | true =>
            as_aux_lemma =>
            go_upto_region 10 with fail
            go_quiet (fail)
            rename_i nq
            have HBD := Lib.hid (below_drN wr nq)
            generalize wr.drewN nq = wd at *
            have HAS := Lib.hid (HAS.out.below HBD.out)
            have HBW := Lib.hid (HBW.out.trans (HBD.out.mono hw2))
            have hwc := HBW.out.size
            obtain ⟨gwd, owd, pwd, cy, e3, hob, hg3, hg3l, hcy, hRy⟩ := HAS.out.o.at_ hkM
            injection e3 with e3a e3b e3c
            subst e3a e3c
            rw [hy] at hRy
            have HRY := Lib.hid hRy
            obtain ⟨a3, c3, a4, c4, rfl, _⟩ := evar_seven hRy
            have y0 : wd.cell? ⟨gwd, owd + k * 7 + 0, none⟩ = _ := hcy 0 _ rfl
            have y1 : wd.cell? ⟨gwd, owd + k * 7 + 1, none⟩ = _ := hcy 1 _ rfl
            have y2 : wd.cell? ⟨gwd, owd + k * 7 + 2, none⟩ = _ := hcy 2 _ rfl
            have y3 : wd.cell? ⟨gwd, owd + k * 7 + 3, none⟩ = _ := hcy 3 _ rfl
            have y4 : wd.cell? ⟨gwd, owd + k * 7 + 4, none⟩ = _ := hcy 4 _ rfl
            have y5 : wd.cell? ⟨gwd, owd + k * 7 + 5, none⟩ = _ := hcy 5 _ rfl
            have y6 : wd.cell? ⟨gwd, owd + k * 7 + 6, none⟩ = _ := hcy 6 _ rfl
            rw [Nat.add_zero] at y0
            clear hcy hRy hob hg3 hg3l e3b
            clear d0 d1 d2 d3 d4 d5 d6
            have hpre := HAS.out.elem HBI.out HRY.out (fun b hb => hb.1) (.cells #[.string y.1, .int .i64 y.2.kind, .bool y.2.bool, .int .i64 y.2.int, .string y.2.str, .slice a3 y.2.list.length c3, .slice a4 y.2.keys.length c4] 48 (0, 0))
            have HPR := Lib.hid hpre
            clear hpre
            go_wp2_with (first
              | (refine wpList_build1 rfl 36 48 (.tmp 47) rfl #[.string y.1, .int .i64 y.2.kind, .bool y.2.bool, .int .i64 y.2.int, .string y.2.str, .slice a3 y.2.list.length c3, .slice a4 y.2.keys.length c4] iV _ Tryz.underlying36 HI.out hzV 7 hnV (by decide) (by decide) rfl rfl ?_)
              | (refine wpList_own_push (E := EVar) rfl (.tmp 43) (.tmp 48) 36 rfl w.heap.size 48 iV _ 104 Tryz.underlying36 HI.out hzV hnV hyV rfl acc _ rfl HPR.out.2.n y [.string y.1, .int .i64 y.2.kind, .bool y.2.bool, .int .i64 y.2.int, .string y.2.str, .slice a3 y.2.list.length c3, .slice a4 y.2.keys.length c4] HPR.out.1 _ (0, 0) (hp_new rfl) rfl (by unfold maxLen; omega) (by omega) (by simp; omega) ?_))
            intro v8 w8 hown hgrow hpu
            have has8 := HPR.out.2.pushed HBI.out hown hgrow (by first | exact hpu | simpa using hpu)
            obtain ⟨g8, p8, hv8⟩ := hpu.form
            subst hv8
            have HB8 : Hid (Below w.heap.size w w8) := (HBW.out.alloc HBW.out.size _).trans (below_grown hgrow (by simp; omega) (fun q e => (HPR.out.2.n.low q e).1))
            have HAS8 := Lib.hid has8
            clear hown hgrow hpu has8 HPR
            go_wp2_with fail
            go_roundg (M.length - (k + 1))
            case measure => omega
            case rel => exact ⟨k + 1, true, _, by go_num, rfl, by omega, rfl, HCP.out (fun h => by cases h), (fun h => by cases h), HAS8.out, HB8.out⟩
          | false =>
            have hak := HAL.out rfl
            have CM := fun W => Lib.hid (rcompare_any x.1 y.1 hxs hys W)
            obtain ⟨gwr, owr, pwr, cy, e3, hob, hg3, hg3l, hcy, hRy⟩ := HAS.out.o.at_ hkM
            injection e3 with e3a e3b e3c
            subst e3a e3c
            rw [hy] at hRy
            have HRY := Lib.hid hRy
            obtain ⟨a3, c3, a4, c4, rfl, _⟩ := evar_seven hRy
            have y0 : wr.cell? ⟨gwr, owr + k * 7 + 0, none⟩ = _ := hcy 0 _ rfl
            have y1 : wr.cell? ⟨gwr, owr + k * 7 + 1, none⟩ = _ := hcy 1 _ rfl
            have y2 : wr.cell? ⟨gwr, owr + k * 7 + 2, none⟩ = _ := hcy 2 _ rfl
            have y3 : wr.cell? ⟨gwr, owr + k * 7 + 3, none⟩ = _ := hcy 3 _ rfl
            have y4 : wr.cell? ⟨gwr, owr + k * 7 + 4, none⟩ = _ := hcy 4 _ rfl
            have y5 : wr.cell? ⟨gwr, owr + k * 7 + 5, none⟩ = _ := hcy 5 _ rfl
            have y6 : wr.cell? ⟨gwr, owr + k * 7 + 6, none⟩ = _ := hcy 6 _ rfl
            rw [Nat.add_zero] at y0
            clear hcy hRy hob hg3 hg3l e3b
            as_aux_lemma =>
            go_upto_region 10 with fail
            go_still_tail 13, (by kernel_rfl)
            change wpList _ _ _ _ _ (World.drew _)
            go_wp2_with fail
            refine (CM _).out.mono ?_
            rintro e w5 ⟨rfl, hu5⟩
            have hb5 : Below wr.heap.size wr w5 := ((Below.refl _ wr).drew).trans (hu5.b.mono (Nat.le_refl _))
            have HAS := Lib.hid (HAS.out.below hb5)
            have HBW := Lib.hid (HBW.out.trans (hb5.mono hw2))
            have hwc := HBW.out.size
            clear CM hu5 hb5 y0 y1 y2 y3 y4 y5 y6 d0 d1 d2 d3 d4 d5 d6 HX HRY
            obtain ⟨d0, d1, d2, d3, d4, d5, d6⟩ := HXC.out w5 HBW.out
            have HX := Lib.hid (HXW.out w5 HBW.out)
            by_cases hc : natC x.1.data.toList y.1.data.toList < 0
            · have HPI := Lib.hid (HINS.out.put hak hkM (by rw [hy]; exact hc))
              have HCP2 : Hid (InsI x M ((acc ++ [x]) ++ [y]) true (k + 1)) := by
                have := HPI.out.copy (fun h => by cases h) hkM (fun h => by cases h)
                rwa [hy] at this
              have hpre := HAS.out.elem HBI.out HX.out (fun _ h => h) (.cells #[.string x.1, .int .i64 x.2.kind, .bool x.2.bool, .int .i64 x.2.int, .string x.2.str, .slice a1 x.2.list.length c1, .slice a2 x.2.keys.length c2] 48 (0, 0))
              have HPR := Lib.hid hpre
              clear hpre
              go_wp2_with (first
                | (refine wpList_build1 rfl 36 48 (.tmp 40) rfl #[.string x.1, .int .i64 x.2.kind, .bool x.2.bool, .int .i64 x.2.int, .string x.2.str, .slice a1 x.2.list.length c1, .slice a2 x.2.keys.length c2] iV _ Tryz.underlying36 HI.out hzV 7 hnV (by decide) (by decide) rfl rfl ?_)
                | (refine wpList_own_push (E := EVar) rfl (.tmp 36) (.tmp 41) 36 rfl w.heap.size 48 iV _ 104 Tryz.underlying36 HI.out hzV hnV hyV rfl acc _ rfl HPR.out.2.n x [.string x.1, .int .i64 x.2.kind, .bool x.2.bool, .int .i64 x.2.int, .string x.2.str, .slice a1 x.2.list.length c1, .slice a2 x.2.keys.length c2] HPR.out.1 _ (0, 0) (hp_new rfl) rfl (by unfold maxLen; omega) (by omega) (by simp; omega) ?_))
              intro v8 w8 hown hgrow hpu
              have has8 := HPR.out.2.pushed HBI.out hown hgrow (by first | exact hpu | simpa using hpu)
              obtain ⟨g8, p8, hv8⟩ := hpu.form
              subst hv8
              have HB8 : Hid (Below w.heap.size w w8) := (HBW.out.alloc HBW.out.size _).trans (below_grown hgrow (by simp; omega) (fun q e => (HPR.out.2.n.low q e).1))
              have HAS8 := Lib.hid has8
              clear hown hgrow hpu has8 HPR
              have HAS := HAS8
              have HBW := HB8
              have hwc := HBW.out.size
              have hal3 : (acc ++ [x]).length ≤ k + 1 := by rw [List.length_append]; simp; omega
              clear HAS8 HB8 d0 d1 d2 d3 d4 d5 d6
              obtain ⟨gw8, ow8, pw8, cy, e3, hob, hg3, hg3l, hcy, hRy⟩ := HAS.out.o.at_ hkM
              injection e3 with e3a e3b e3c
              injection e3a with e3a
              injection e3a with e3a e3d
              subst e3a e3d e3c
              rw [hy] at hRy
              have HRY := Lib.hid hRy
              obtain ⟨a3, c3, a4, c4, rfl, _⟩ := evar_seven hRy
              have y0 : w8.cell? ⟨gwr, owr + k * 7 + 0, none⟩ = _ := hcy 0 _ rfl
              have y1 : w8.cell? ⟨gwr, owr + k * 7 + 1, none⟩ = _ := hcy 1 _ rfl
              have y2 : w8.cell? ⟨gwr, owr + k * 7 + 2, none⟩ = _ := hcy 2 _ rfl
              have y3 : w8.cell? ⟨gwr, owr + k * 7 + 3, none⟩ = _ := hcy 3 _ rfl
              have y4 : w8.cell? ⟨gwr, owr + k * 7 + 4, none⟩ = _ := hcy 4 _ rfl
              have y5 : w8.cell? ⟨gwr, owr + k * 7 + 5, none⟩ = _ := hcy 5 _ rfl
              have y6 : w8.cell? ⟨gwr, owr + k * 7 + 6, none⟩ = _ := hcy 6 _ rfl
              rw [Nat.add_zero] at y0
              clear hcy hRy hob hg3 hg3l e3b
              have hpre := HAS.out.elem HBI.out HRY.out (fun b hb => hb.1) (.cells #[.string y.1, .int .i64 y.2.kind, .bool y.2.bool, .int .i64 y.2.int, .string y.2.str, .slice a3 y.2.list.length c3, .slice a4 y.2.keys.length c4] 48 (0, 0))
              have HPR := Lib.hid hpre
              clear hpre
              go_wp2_with (first
                | (refine wpList_build1 rfl 36 48 (.tmp 47) rfl #[.string y.1, .int .i64 y.2.kind, .bool y.2.bool, .int .i64 y.2.int, .string y.2.str, .slice a3 y.2.list.length c3, .slice a4 y.2.keys.length c4] iV _ Tryz.underlying36 HI.out hzV 7 hnV (by decide) (by decide) rfl rfl ?_)
                | (refine wpList_own_push (E := EVar) rfl (.tmp 43) (.tmp 48) 36 rfl w.heap.size 48 iV _ 104 Tryz.underlying36 HI.out hzV hnV hyV rfl (acc ++ [x]) _ rfl HPR.out.2.n y [.string y.1, .int .i64 y.2.kind, .bool y.2.bool, .int .i64 y.2.int, .string y.2.str, .slice a3 y.2.list.length c3, .slice a4 y.2.keys.length c4] HPR.out.1 _ (0, 0) (hp_new rfl) rfl (by unfold maxLen; omega) (by omega) (by simp; omega) ?_))
              intro v8 w8 hown hgrow hpu
              have has8 := HPR.out.2.pushed HBI.out hown hgrow (by first | exact hpu | simpa using hpu)
              obtain ⟨g8, p8, hv8⟩ := hpu.form
              subst hv8
              have HB8 : Hid (Below w.heap.size w w8) := (HBW.out.alloc HBW.out.size _).trans (below_grown hgrow (by simp; omega) (fun q e => (HPR.out.2.n.low q e).1))
              have HAS8 := Lib.hid has8
              clear hown hgrow hpu has8 HPR
              go_wp2_with fail
              go_roundg (M.length - (k + 1))
              case measure => omega
              case rel => exact ⟨k + 1, true, _, by go_num, rfl, by omega, rfl, HCP2.out, (fun h => by cases h), (by first | exact HAS8.out | (rw [List.append_assoc]; exact HAS8.out)), HB8.out⟩
            · have HCP2 := Lib.hid (HCP.out (fun _ => by first | exact hc | exact Int.not_lt.1 hc))
              have hcn : decide (natC x.1.data.toList y.1.data.toList < 0) = false := decide_eq_false hc
              clear d0 d1 d2 d3 d4 d5 d6 HCP
              obtain ⟨gw5, ow5, pw5, cy, e3, hob, hg3, hg3l, hcy, hRy⟩ := HAS.out.o.at_ hkM
              injection e3 with e3a e3b e3c
              injection e3a with e3a
              injection e3a with e3a e3d
              subst e3a e3d e3c
              rw [hy] at hRy
              have HRY := Lib.hid hRy
              obtain ⟨a3, c3, a4, c4, rfl, _⟩ := evar_seven hRy
              have y0 : w5.cell? ⟨gwr, owr + k * 7 + 0, none⟩ = _ := hcy 0 _ rfl
              have y1 : w5.cell? ⟨gwr, owr + k * 7 + 1, none⟩ = _ := hcy 1 _ rfl
              have y2 : w5.cell? ⟨gwr, owr + k * 7 + 2, none⟩ = _ := hcy 2 _ rfl
              have y3 : w5.cell? ⟨gwr, owr + k * 7 + 3, none⟩ = _ := hcy 3 _ rfl
              have y4 : w5.cell? ⟨gwr, owr + k * 7 + 4, none⟩ = _ := hcy 4 _ rfl
              have y5 : w5.cell? ⟨gwr, owr + k * 7 + 5, none⟩ = _ := hcy 5 _ rfl
              have y6 : w5.cell? ⟨gwr, owr + k * 7 + 6, none⟩ = _ := hcy 6 _ rfl
              rw [Nat.add_zero] at y0
              clear hcy hRy hob hg3 hg3l e3b
              have hpre := HAS.out.elem HBI.out HRY.out (fun b hb => hb.1) (.cells #[.string y.1, .int .i64 y.2.kind, .bool y.2.bool, .int .i64 y.2.int, .string y.2.str, .slice a3 y.2.list.length c3, .slice a4 y.2.keys.length c4] 48 (0, 0))
              have HPR := Lib.hid hpre
              clear hpre
              go_wp2_with (first
                | (refine wpList_build1 rfl 36 48 (.tmp 47) rfl #[.string y.1, .int .i64 y.2.kind, .bool y.2.bool, .int .i64 y.2.int, .string y.2.str, .slice a3 y.2.list.length c3, .slice a4 y.2.keys.length c4] iV _ Tryz.underlying36 HI.out hzV 7 hnV (by decide) (by decide) rfl rfl ?_)
                | (refine wpList_own_push (E := EVar) rfl (.tmp 43) (.tmp 48) 36 rfl w.heap.size 48 iV _ 104 Tryz.underlying36 HI.out hzV hnV hyV rfl acc _ rfl HPR.out.2.n y [.string y.1, .int .i64 y.2.kind, .bool y.2.bool, .int .i64 y.2.int, .string y.2.str, .slice a3 y.2.list.length c3, .slice a4 y.2.keys.length c4] HPR.out.1 _ (0, 0) (hp_new rfl) rfl (by unfold maxLen; omega) (by omega) (by simp; omega) ?_))
              intro v8 w8 hown hgrow hpu
              have has8 := HPR.out.2.pushed HBI.out hown hgrow (by first | exact hpu | simpa using hpu)
              obtain ⟨g8, p8, hv8⟩ := hpu.form
              subst hv8
              have HB8 : Hid (Below w.heap.size w w8) := (HBW.out.alloc HBW.out.size _).trans (below_grown hgrow (by simp; omega) (fun q e => (HPR.out.2.n.low q e).1))
              have HAS8 := Lib.hid has8
              clear hown hgrow hpu has8 HPR
              go_wp2_with fail
              go_roundg (M.length - (k + 1))
              case measure => omega
              case rel => exact ⟨k + 1, false, _, by go_num, rfl, by omega, rfl, HCP2.out, (fun _ => by rw [List.length_append]; simp; omega), HAS8.out, HB8.out⟩
        · have hkk : ¬ (k : Int) < (i : Int) := by omega
          have he : k = M.length := by rw [HIL.out]; omega
          have hwc := HBW.out.size
          cases d with
          | true =>
            have HDN : Hid (acc = insN nmR x M) := by have := HINS.out; rw [he] at this; exact this.done
            clear he HINS HAL d0 d1 d2 d3 d4 d5 d6 HX
            as_aux_lemma =>
            go_wp2_with fail
            go_roundg (L.length - (i + 1))
            case measure => omega
            case rel => exact ⟨i + 1, by go_num, by omega, rfl, by rw [HIN.out, ← HDN.out]; exact HAS.out.n, HBW.out⟩
          | false =>
            have HDN : Hid (acc ++ [x] = insN nmR x M) := by have := HINS.out; rw [he] at this; exact this.last
            clear he HINS HAL
            as_aux_lemma =>
            have hpre := HAS.out.elem HBI.out HX.out (fun _ h => h) (.cells #[.string x.1, .int .i64 x.2.kind, .bool x.2.bool, .int .i64 x.2.int, .string x.2.str, .slice a1 x.2.list.length c1, .slice a2 x.2.keys.length c2] 48 (0, 0))
            have HPR := Lib.hid hpre
            clear hpre
            go_wp2_with (first
              | (refine wpList_build1 rfl 36 48 (.tmp 56) rfl #[.string x.1, .int .i64 x.2.kind, .bool x.2.bool, .int .i64 x.2.int, .string x.2.str, .slice a1 x.2.list.length c1, .slice a2 x.2.keys.length c2] iV _ Tryz.underlying36 HI.out hzV 7 hnV (by decide) (by decide) rfl rfl ?_)
              | (refine wpList_own_push (E := EVar) rfl (.tmp 52) (.tmp 57) 36 rfl w.heap.size 48 iV _ 104 Tryz.underlying36 HI.out hzV hnV hyV rfl acc _ rfl HPR.out.2.n x [.string x.1, .int .i64 x.2.kind, .bool x.2.bool, .int .i64 x.2.int, .string x.2.str, .slice a1 x.2.list.length c1, .slice a2 x.2.keys.length c2] HPR.out.1 _ (0, 0) (hp_new rfl) rfl (by unfold maxLen; omega) (by omega) (by simp; omega) ?_))
            intro v8 w8 hown hgrow hpu
            have has8 := HPR.out.2.pushed HBI.out hown hgrow (by first | exact hpu | simpa using hpu)
            obtain ⟨g8, p8, hv8⟩ := hpu.form
            subst hv8
            have HB8 : Hid (Below w.heap.size w w8) := (HBW.out.alloc HBW.out.size _).trans (below_grown hgrow (by simp; omega) (fun q e => (HPR.out.2.n.low q e).1))
            have HAS8 := Lib.hid has8
            clear hown hgrow hpu has8 HPR
            go_wp2_with fail
            go_roundg (L.length - (i + 1))
            case measure => omega
            case rel => exact ⟨i + 1, by go_num, by omega, rfl, by rw [HIN.out, ← HDN.out]; exact HAS8.out.n, HB8.out⟩
    · have hii : ¬ (i : Int) < (L.length : Int) := by omega
      have he : i = L.length := by omega
      have hr : EVar.Row (fun b => (B b ∧ b < w.heap.size) ∨ w.heap.size ≤ b) w0 (instF L) (.slice oo L.length oc) := by
        have := HO.out.row (B' := fun b => (B b ∧ b < w.heap.size) ∨ w.heap.size ≤ b) (fun b hb => .inl (HBQ.out b hb)) (fun b hb => .inr hb)
        rw [he, List.take_length] at this
        exact this
      have HR := Lib.hid hr
      subst he
      clear HO hr
      as_aux_lemma =>
      go_wp2_with fail
      go_ret
      exact ⟨_, _, rfl, HR.out, HB.out⟩
end Go.Proofs.YtomecnncighkgaaGreatDoor
/- The walk over the reference's combinations. -/
namespace Go.Proofs.YtomecnncighkgaaGreatDoor
open Go.RowKit Go.Deep

theorem ax_drop {B : Nat → Prop} {w : World} {a : AX} {A : List AX} {bl off cap n : Nat} (h : EAx.Row B w (a :: A) (.slice (some ⟨bl, off, none⟩) n cap)) : EAx.Row B w A (.slice (some ⟨bl, off + 2, none⟩) A.length (cap - 1)) := by
  rcases h with ⟨_, _, _, e⟩ | ⟨bl', off', cap', e, h2, h3, h4, h5⟩
  · cases e
  · injection e with e1 e2 e3
    injection e1 with e1
    injection e1 with e1 e4
    subst e1 e4 e3
    refine .inr ⟨bl, off + 2, cap - 1, rfl, h2, h3, by simp at h4; omega, fun k hk => ?_⟩
    obtain ⟨cs, c1, c2⟩ := h5 (k + 1) (by simpa using hk)
    refine ⟨cs, fun j u hu => ?_, c2⟩
    have := c1 j u hu
    rw [show EAx.sz = 2 from rfl] at this ⊢
    rw [show off + 2 + k * 2 + j = off + (k + 1) * 2 + j by omega]
    exact this
def RcRel (a : AX) (A : List AX) (b : List VR) (W : World) (B : Nat → Prop) (f : Nat) (t5 t6 : Value) (wr : World) : Prop :=
  ∃ i : Nat, t6 = .int .i64 (i : Nat) ∧ i ≤ a.2.length ∧ f = a.2.length - i ∧ EVars.Own 36 W.heap.size (fun q => B q ∨ W.heap.size ≤ q) wr ((a.2.take i).flatMap fun v => (combF A).map fun c => b ++ (a.1, v) :: c) t5 ∧ Below W.heap.size W wr
def RcCalls (A : List AX) : Prop := ∀ (b : List VR) (B : Nat → Prop) (v u : Value) (W : World), (∀ q, B q → q < W.heap.size) → EAx.Row B W A v → EVar.Row B W b u → (combF A).length ≤ 1000 → b.length + A.length ≤ 1000 →
  Calls Tryz.prog 31 #[v, u] W fun e w' => ∃ ao cap, e = .returned (.slice ao (combF A).length cap) ∧ EVars.Row (fun q => B q ∨ W.heap.size ≤ q) w' ((combF A).map fun c => b ++ c) (.slice ao (combF A).length cap) ∧ Below W.heap.size W w'
theorem comb_flat_len (a : AX) (A : List AX) (b : List VR) (i : Nat) : ((a.2.take i).flatMap fun v => (combF A).map fun c => b ++ (a.1, v) :: c).length = (a.2.take i).length * (combF A).length := by
  induction a.2.take i with
  | nil => simp
  | cons x l ih => rw [List.flatMap_cons, List.length_append, ih, List.length_map, List.length_cons, Nat.succ_mul]; omega
theorem comb_len_cons (a : AX) (A : List AX) : (combF (a :: A)).length = a.2.length * (combF A).length := by
  rw [combF]
  induction a.2 with
  | nil => simp
  | cons x l ih => rw [List.flatMap_cons, List.length_append, ih, List.length_map, List.length_cons, Nat.succ_mul]; omega
theorem comb_map_cons (a : AX) (A : List AX) (b : List VR) : (combF (a :: A)).map (fun c => b ++ c) = a.2.flatMap fun v => (combF A).map fun c => b ++ (a.1, v) :: c := by
  rw [combF, List.map_flatMap]
  congr 1
  funext v
  rw [List.map_map]
  rfl
set_option maxRecDepth 100000 in
set_option maxHeartbeats 6400000 in
theorem rcomb_nil : RcCalls [] := by
  intro b B v u W hB hA hb _ _
  obtain ⟨ao, ac, rfl⟩ := hA.form
  obtain ⟨bo, bc, rfl⟩ := hb.form
  obtain ⟨iV, hiV, hzV, hnV, hyV⟩ := Tryz.infoVars'
  have HIV := Lib.hid hiV
  have HBW := Lib.hid ((Below.refl W.heap.size W).alloc (Nat.le_refl _) (.cells #[.slice bo b.length bc] 36))
  have hr : EVars.Row (fun q => B q ∨ W.heap.size ≤ q) (W.alloc (.cells #[.slice bo b.length bc] 36)) [b] (.slice (some ⟨W.heap.size, 0, none⟩) 1 1) := by
    refine .inr ⟨W.heap.size, 0, 1, rfl, .inr (Nat.le_refl _), by simp, Nat.le_refl _, fun k hk => ?_⟩
    have hk0 : k = 0 := by simpa using hk
    subst hk0
    refine ⟨[.slice bo b.length bc], fun j u hu => ?_, evars_mk ((hb.below HBW.out).mono fun q hq => .inl hq)⟩
    have hj : j = 0 := by have := (List.getElem?_eq_some_iff.1 hu).1; simpa using this
    subst hj
    injection hu with hu
    subst hu
    exact cell_of_blk (hp_new rfl) 0
  have HR := Lib.hid hr
  clear hA hb hB hiV hr
  go_enter Tryz.func31, Tryz.ntmps31
  go_wp2_with (refine wpList_build1 rfl 23 36 (.tmp 11) rfl #[.slice bo b.length bc] iV _ Tryz.underlying23 HIV.out hzV 1 hnV (by decide) (by decide) rfl rfl ?_)
  go_ret
  exact ⟨_, _, rfl, by rw [show (combF []).map (fun c => b ++ c) = [b] from by simp [combF]]; exact HR.out, HBW.out⟩

set_option maxRecDepth 100000 in
set_option maxHeartbeats 6400000 in
theorem rcomb_cons (a : AX) (A : List AX) (hla : a.2.length ≤ 9223372036854775807) (ih : RcCalls A) : RcCalls (a :: A) := by
  intro b B v u W hB hA hb hcl hbl
  obtain ⟨ao, ac, rfl⟩ := hA.form
  obtain ⟨bo, bc, rfl⟩ := hb.form
  have hcap := row_cap hA (i := 0) (by simp)
  have hac : A.length + 1 ≤ ac := by
    rcases hA with ⟨_, _, _, e⟩ | ⟨_, _, _, e, _, _, hc, _⟩
    · cases e
    · injection e with _ _ e3; simp at hc; omega
  obtain ⟨bl, off, a1, c1, rfl, hbl0, e0, e1, hvr⟩ := eax_at hA (k := 0) (by simp)
  rw [Nat.zero_mul, Nat.add_zero] at e0
  rw [Nat.zero_mul, Nat.add_zero] at e1
  have HD := Lib.hid (ax_drop hA)
  have HBR := Lib.hid hb
  have HB := Lib.hid hB
  have HCL := Lib.hid hcl
  have HVR : Hid (EVal.Row B W a.2 (.slice a1 a.2.length c1)) := hvr
  have HIH := Lib.hid ih
  have HNX : Hid (∀ W', Below W.heap.size W W' → W'.cell? ⟨bl, off, none⟩ = some (.string a.1) ∧ W'.cell? ⟨bl, off + 1, none⟩ = some (.slice a1 a.2.length c1)) := fun W' h => ⟨(h.cell (p := ⟨bl, off, none⟩) hbl0).trans e0, (h.cell (p := ⟨bl, off + 1, none⟩) hbl0).trans e1⟩
  have HLC := Lib.hid (comb_len_cons a A)
  have HFL := Lib.hid (comb_flat_len a A b)
  have HMC := Lib.hid (comb_map_cons a A b)
  have hlen : (a :: A).length = A.length + 1 := rfl
  rw [hlen] at hbl ⊢
  clear hA hb hB hcl hvr ih e0 e1 hcap hlen
  obtain ⟨iV, hiV, hzV, hnV, hyV⟩ := Tryz.infoVars'
  obtain ⟨iR, hiR, hzR, hnR, hyR⟩ := Tryz.vinfoVar'
  have HIV := Lib.hid hiV
  have HIR := Lib.hid hiR
  clear hiV hiR
  have t0 : (((A.length + 1 : Nat) : Int) == 0) = false := by rw [beq_eq_false_iff_ne]; omega
  have t0b : ((A.length : Int) + 1 == 0) = false := by rw [beq_eq_false_iff_ne]; omega
  have t0c : (0 : Int) < (A.length : Int) + 1 := by omega
  have t0d : (0 : Int) < ((A.length + 1 : Nat) : Int) := by omega
  go_enter Tryz.func31, Tryz.ntmps31
  go_wp2_with fail
  go_loopg [5, 6] a.2.length (RcRel a A b W B)
  case atStart => exact ⟨0, rfl, Nat.zero_le _, rfl, .nil, Below.refl _ _⟩
  case round =>
    obtain ⟨i, rfl, hi, rfl, ho, hbel⟩ := hrel
    have HBW := Lib.hid hbel
    have hws := hbel.size
    obtain ⟨e0, e1⟩ := HNX.out wr hbel
    obtain ⟨vo, vc, rfl⟩ := ho.form
    have HLO : Hid (((a.2.take i).flatMap fun v => (combF A).map fun c => b ++ (a.1, v) :: c).length = i * (combF A).length) := by unfold Hid; rw [HFL.out, List.length_take, Nat.min_eq_left hi]
    rw [HLO.out] at ho ⊢
    have HO := Lib.hid ho
    clear ho hbel
    by_cases hlt : i < a.2.length
    · have hii : (i : Int) < (a.2.length : Int) := by omega
      obtain ⟨bv, ov, cv, rfl, hbvB, hbv, hcv, hRv⟩ := (HVR.out.below HBW.out).at hlt
      have HYR := Lib.hid hRv
      obtain ⟨lo1, lc1, ko1, kc1, rfl⟩ := vcellB_slices hRv
      have hbvW := HB.out _ hbvB
      have HS : Hid (∀ W', Below W.heap.size wr W' → W'.cell? ⟨bl, off, none⟩ = some (.string a.1) ∧ W'.cell? ⟨bl, off + 1, none⟩ = some (.slice (some ⟨bv, ov, none⟩) a.2.length c1) ∧ W'.cell? ⟨bv, ov + i * 6, none⟩ = some (.int .i64 a.2[i].kind) ∧ W'.cell? ⟨bv, ov + i * 6 + 1, none⟩ = some (.bool a.2[i].bool) ∧ W'.cell? ⟨bv, ov + i * 6 + 2, none⟩ = some (.int .i64 a.2[i].int) ∧ W'.cell? ⟨bv, ov + i * 6 + 3, none⟩ = some (.string a.2[i].str) ∧ W'.cell? ⟨bv, ov + i * 6 + 4, none⟩ = some (.slice lo1 a.2[i].list.length lc1) ∧ W'.cell? ⟨bv, ov + i * 6 + 5, none⟩ = some (.slice ko1 a.2[i].keys.length kc1)) := fun W' h => by
        obtain ⟨f0, f1⟩ := HNX.out W' (HBW.out.trans h)
        have g : ∀ (j : Nat) u, [Value.int .i64 a.2[i].kind, .bool a.2[i].bool, .int .i64 a.2[i].int, .string a.2[i].str, .slice lo1 a.2[i].list.length lc1, .slice ko1 a.2[i].keys.length kc1][j]? = some u → W'.cell? ⟨bv, ov + i * 6 + j, none⟩ = some u := fun j u hu => (h.cell (p := ⟨bv, ov + i * 6 + j, none⟩) hbvW).trans (hcv j u hu)
        exact ⟨f0, f1, g 0 _ rfl, g 1 _ rfl, g 2 _ rfl, g 3 _ rfl, g 4 _ rfl, g 5 _ rfl⟩
      have HTK : Hid (((a.2.take (i + 1)).flatMap fun v => (combF A).map fun c => b ++ (a.1, v) :: c) = ((a.2.take i).flatMap fun v => (combF A).map fun c => b ++ (a.1, v) :: c) ++ (combF A).map (fun c => (b ++ [(a.1, a.2[i])]) ++ c)) := by
        unfold Hid
        rw [List.take_succ_eq_append_getElem hlt, List.flatMap_append]
        congr 1
        simp
      have hmul : (i + 1) * (combF A).length ≤ 1000 := by
        have h1 := HCL.out
        rw [HLC.out] at h1
        exact Nat.le_trans (Nat.mul_le_mul_right _ hlt) h1
      have hcl2 : (combF A).length ≤ 1000 := Nat.le_trans (Nat.le_mul_of_pos_left _ (Nat.succ_pos i)) hmul
      have hmul2 : i * (combF A).length + (combF A).length ≤ 1000 := by rw [Nat.succ_mul] at hmul; exact hmul
      clear hcv hRv hmul
      generalize a.2[i] = y at *
      have HBR0 : Hid (EVar.Row (fun q => B q ∧ (Value.slice none 0 0).ownBlock ≠ some q) wr b (.slice bo b.length bc)) := (HBR.out.below HBW.out).mono fun q hq => ⟨hq, fun e => by cases e⟩
      as_aux_lemma =>
      go_wp2_with (refine wpList_own_all (E := EVar) rfl (.tmp 22) (.tmp 23) 36 rfl wr.heap.size 48 iR _ 104 Tryz.underlying36 HIR.out hzR hnR hyR rfl [] _ rfl ElemK.Own.nil b bo bc HBR0.out rfl (by unfold maxLen; simp; omega) (by simp; omega) (Nat.le_refl _) ?_)
      intro v7 w2 hown hgrow
      try rw [List.nil_append] at hown
      obtain ⟨lo, lc, rfl⟩ := hown.form
      have hb2 : Below wr.heap.size wr w2 := below_grown hgrow (Nat.le_refl _) (fun q e => by cases e)
      have HB2 := Lib.hid hb2
      have HO2 := Lib.hid hown
      have HOL : Hid (∀ q, (Value.slice vo (i * (combF A).length) vc).ownBlock = some q → q < wr.heap.size) := fun q hq => (HO.out.low q hq).2
      have HOL2 : Hid (∀ q, (Value.slice vo (i * (combF A).length) vc).ownBlock = some q → W.heap.size ≤ q) := fun q hq => (HO.out.low q hq).1
      have HOO := Lib.hid (HO.out.lt.below hb2)
      have hs2 := hb2.size
      clear hown hgrow hb2 HO HBR0 e0 e1
      go_wp2_with fail
      have HDR : Hid (Below wr.heap.size wr w2.drew) := HB2.out.drew
      refine wp_region_Z (S := fun W' : World => W'.cell? ⟨bl, off, none⟩ = some (.string a.1) ∧ W'.cell? ⟨bl, off + 1, none⟩ = some (.slice (some ⟨bv, ov, none⟩) a.2.length c1) ∧ W'.cell? ⟨bv, ov + i * 6, none⟩ = some (.int .i64 y.kind) ∧ W'.cell? ⟨bv, ov + i * 6 + 1, none⟩ = some (.bool y.bool) ∧ W'.cell? ⟨bv, ov + i * 6 + 2, none⟩ = some (.int .i64 y.int) ∧ W'.cell? ⟨bv, ov + i * 6 + 3, none⟩ = some (.string y.str) ∧ W'.cell? ⟨bv, ov + i * 6 + 4, none⟩ = some (.slice lo1 y.list.length lc1) ∧ W'.cell? ⟨bv, ov + i * 6 + 5, none⟩ = some (.slice ko1 y.keys.length kc1)) 15 (by kernel_rfl) (HS.out _ (HDR.out.mono hws)) (fun hHeld => ?_)
      refine wpAnyZ_takeL (i := 0) (v := ?_) rfl (by kernel_rfl) (by kernel_rfl) (by kernel_rfl) (by kernel_rfl) (fun _ _ _ h => h) (Or.inl ⟨by rfl, ?_⟩) (by assumption) ?_
      rotate_left
      · (intro w hSw; (try dsimp only at hSw); go_simp; try with_reducible rfl)
      try simp only [Act.put, List.setIfInBounds_toArray, List.set_cons_zero, List.set_cons_succ]
      refine wpAnyZ_takeL (i := 1) (v := ?_) rfl (by kernel_rfl) (by kernel_rfl) (by kernel_rfl) (by kernel_rfl) (fun _ _ _ h => h) (Or.inl ⟨by rfl, ?_⟩) (by assumption) ?_
      rotate_left
      · (intro w hSw; (try dsimp only at hSw); go_simp; try with_reducible rfl)
      try simp only [Act.put, List.setIfInBounds_toArray, List.set_cons_zero, List.set_cons_succ]
      refine wpAnyZ_takeL (i := 2) (v := ?_) rfl (by kernel_rfl) (by kernel_rfl) (by kernel_rfl) (by kernel_rfl) (fun _ _ _ h => h) (Or.inl ⟨by rfl, ?_⟩) (by assumption) ?_
      rotate_left
      · (intro w hSw; (try dsimp only at hSw); go_simp; try with_reducible rfl)
      try simp only [Act.put, List.setIfInBounds_toArray, List.set_cons_zero, List.set_cons_succ]
      refine wpAnyZ_takeL (i := 3) (v := ?_) rfl (by kernel_rfl) (by kernel_rfl) (by kernel_rfl) (by kernel_rfl) (fun _ _ _ h => h) (Or.inl ⟨by rfl, ?_⟩) (by assumption) ?_
      rotate_left
      · (intro w hSw; (try dsimp only at hSw); go_simp; try with_reducible rfl)
      try simp only [Act.put, List.setIfInBounds_toArray, List.set_cons_zero, List.set_cons_succ]
      refine wpAnyZ_takeL (i := 4) (v := ?_) rfl (by kernel_rfl) (by kernel_rfl) (by kernel_rfl) (by kernel_rfl) (fun _ _ _ h => h) (Or.inl ⟨by rfl, ?_⟩) (by assumption) ?_
      rotate_left
      · (intro w hSw; (try dsimp only at hSw); go_simp; try with_reducible rfl)
      try simp only [Act.put, List.setIfInBounds_toArray, List.set_cons_zero, List.set_cons_succ]
      refine wpAnyZ_takeL (i := 5) (v := ?_) rfl (by kernel_rfl) (by kernel_rfl) (by kernel_rfl) (by kernel_rfl) (fun _ _ _ h => h) (Or.inl ⟨by rfl, ?_⟩) (by assumption) ?_
      rotate_left
      · (intro w hSw; (try dsimp only at hSw); go_simp; try with_reducible rfl)
      try simp only [Act.put, List.setIfInBounds_toArray, List.set_cons_zero, List.set_cons_succ]
      refine wpAnyZ_takeL (i := 6) (v := ?_) rfl (by kernel_rfl) (by kernel_rfl) (by kernel_rfl) (by kernel_rfl) (fun _ _ _ h => h) (Or.inl ⟨by rfl, ?_⟩) (by assumption) ?_
      rotate_left
      · (intro w hSw; (try dsimp only at hSw); go_simp; try with_reducible rfl)
      try simp only [Act.put, List.setIfInBounds_toArray, List.set_cons_zero, List.set_cons_succ]
      refine wpAnyZ_takeL (i := 7) (v := ?_) rfl (by kernel_rfl) (by kernel_rfl) (by kernel_rfl) (by kernel_rfl) (fun _ _ _ h => h) (Or.inl ⟨by rfl, ?_⟩) (by assumption) ?_
      rotate_left
      · (intro w hSw; (try dsimp only at hSw); go_simp; try with_reducible rfl)
      try simp only [Act.put, List.setIfInBounds_toArray, List.set_cons_zero, List.set_cons_succ]
      refine wpAnyZ_takeL (i := 8) (v := ?_) rfl (by kernel_rfl) (by kernel_rfl) (by kernel_rfl) (by kernel_rfl) (fun _ _ _ h => h) (Or.inl ⟨by rfl, ?_⟩) (by assumption) ?_
      rotate_left
      · (intro w hSw; (try dsimp only at hSw); go_simp; try with_reducible rfl)
      try simp only [Act.put, List.setIfInBounds_toArray, List.set_cons_zero, List.set_cons_succ]
      refine wpAnyZ_takeL (i := 9) (v := ?_) rfl (by kernel_rfl) (by kernel_rfl) (by kernel_rfl) (by kernel_rfl) (fun _ _ _ h => h) (Or.inl ⟨by rfl, ?_⟩) (by assumption) ?_
      rotate_left
      · (intro w hSw; (try dsimp only at hSw); go_simp; try with_reducible rfl)
      try simp only [Act.put, List.setIfInBounds_toArray, List.set_cons_zero, List.set_cons_succ]
      refine wpAnyZ_takeL (i := 10) (v := ?_) rfl (by kernel_rfl) (by kernel_rfl) (by kernel_rfl) (by kernel_rfl) (fun _ _ _ h => h) (Or.inl ⟨by rfl, ?_⟩) (by assumption) ?_
      rotate_left
      · (intro w hSw; (try dsimp only at hSw); go_simp; try with_reducible rfl)
      try simp only [Act.put, List.setIfInBounds_toArray, List.set_cons_zero, List.set_cons_succ]
      refine wpAnyZ_takeL (i := 11) (v := ?_) rfl (by kernel_rfl) (by kernel_rfl) (by kernel_rfl) (by kernel_rfl) (fun _ _ _ h => h) (Or.inl ⟨by rfl, ?_⟩) (by assumption) ?_
      rotate_left
      · (intro w hSw; (try dsimp only at hSw); go_simp; try with_reducible rfl)
      try simp only [Act.put, List.setIfInBounds_toArray, List.set_cons_zero, List.set_cons_succ]
      obtain ⟨wd, hwd⟩ : ∃ wd, w2.drew = wd := ⟨_, rfl⟩
      have HO2D : Hid (EVar.Own 48 wr.heap.size B wd b (.slice lo b.length lc)) := by unfold Hid; rw [← hwd]; exact HO2.out.drew
      have HOOD : Hid (EVars.Own 36 W.heap.size (fun q => (B q ∨ W.heap.size ≤ q) ∧ q < wr.heap.size) wd ((a.2.take i).flatMap fun v => (combF A).map fun c => b ++ (a.1, v) :: c) (.slice vo (i * (combF A).length) vc)) := by unfold Hid; rw [← hwd]; exact HOO.out.drew
      rw [hwd] at HDR ⊢
      clear hwd HO2 HOO
      refine wpAnyZ_oneL (i := 12) (by kernel_rfl) rfl (fun K hK => ?_)
      rw [if_pos (by rfl)]
      refine wp_build2M 48 (.tmp 29) (.tmp 36) rfl _ _ rfl rfl #[.string a.1, .int .i64 y.kind, .bool y.bool, .int .i64 y.int, .string y.str, .slice lo1 y.list.length lc1, .slice ko1 y.keys.length kc1] (Tryz.built_var _ _ _ _ _ _ _) ?_
      refine hK.out _ _ (fun _ => HS.out _ (HDR.out.mono hws)) (fun hHeld => ?_)
      replace hHeld := hHeld (by decide)
      clear hK K
      try simp only [Act.put, List.setIfInBounds_toArray, List.set_cons_zero, List.set_cons_succ]
      refine wpAnyZ_oneL (i := 13) (by kernel_rfl) rfl (fun K hK => ?_)
      rw [if_pos (by rfl)]
      refine wp_build1 36 48 (.tmp 37) rfl #[.string a.1, .int .i64 y.kind, .bool y.bool, .int .i64 y.int, .string y.str, .slice lo1 y.list.length lc1, .slice ko1 y.keys.length kc1] iR _ Tryz.underlying36 HIR.out hzR 7 hnR (by decide) (by decide) rfl rfl ?_
      obtain ⟨W7, hW7⟩ : ∃ W7, wd.alloc (.cells #[.string a.1, .int .i64 y.kind, .bool y.bool, .int .i64 y.int, .string y.str, .slice lo1 y.list.length lc1, .slice ko1 y.keys.length kc1] 48) = W7 := ⟨_, rfl⟩
      have hk7 : W7.heap[wd.heap.size]? = some (.cells #[.string a.1, .int .i64 y.kind, .bool y.bool, .int .i64 y.int, .string y.str, .slice lo1 y.list.length lc1, .slice ko1 y.keys.length kc1] 48 (0, 0)) := by rw [← hW7]; exact hp_new rfl
      have HBD7 : Hid (Below wd.heap.size wd W7) := by unfold Hid; rw [← hW7]; exact (Below.refl _ _).alloc (Nat.le_refl _) _
      have HB7 : Hid (Below wr.heap.size wr W7) := HDR.out.trans (HBD7.out.mono HDR.out.size)
      have HO7 := Lib.hid (HO2D.out.below HBD7.out)
      have HOO7 := Lib.hid (HOOD.out.below HBD7.out)
      rw [hW7]
      clear hW7 HO2D HOOD
      refine hK.out _ _ (fun _ => HS.out _ (HB7.out.mono hws)) (fun hHeld => ?_)
      replace hHeld := hHeld (by decide)
      clear hK K
      try simp only [Act.put, List.setIfInBounds_toArray, List.set_cons_zero, List.set_cons_succ]
      have HX7 : Hid (EVar.R (fun q => B q ∧ (Value.slice lo b.length lc).ownBlock ≠ some q) W7 (a.1, y) [.string a.1, .int .i64 y.kind, .bool y.bool, .int .i64 y.int, .string y.str, .slice lo1 y.list.length lc1, .slice ko1 y.keys.length kc1]) := evar_mk (VCellB.mono (fun q hq => ⟨hq, fun e => by have h1 := (HO7.out.low q e).1; have h2 := HB.out q hq; omega⟩) _ _ (VCellB.keep HB7.out.size (fun q _ hl => HB7.out.block q hl) _ _ HYR.out))
      have hz7 := HB7.out.size
      have hzd := HDR.out.size
      refine wpAnyZ_oneL (i := 14) (by kernel_rfl) rfl (fun K hK => ?_)
      rw [if_pos (by rfl)]
      refine wp_own_push (E := EVar) (.tmp 25) (.tmp 38) 36 rfl wr.heap.size 48 iR _ 104 Tryz.underlying36 HIR.out hzR hnR hyR rfl _ (.slice lo b.length lc) rfl HO7.out (a.1, y) [.string a.1, .int .i64 y.kind, .bool y.bool, .int .i64 y.int, .string y.str, .slice lo1 y.list.length lc1, .slice ko1 y.keys.length kc1] HX7.out wd.heap.size (0, 0) hk7 rfl (by unfold maxLen; omega) (by omega) (by omega) ?_
      intro v8 w8 hown hgrow hpu
      obtain ⟨g8, p8, hv8⟩ := hpu.form
      subst hv8
      have hb8 : Below wr.heap.size W7 w8 := below_grown hgrow (by omega) (fun q e => (HO7.out.low q e).1)
      have HB8 : Hid (Below wr.heap.size wr w8) := HB7.out.trans hb8
      have HOO8 : Hid (EVars.Own 36 W.heap.size (fun q => (B q ∨ W.heap.size ≤ q) ∧ q < wr.heap.size) w8 ((a.2.take i).flatMap fun v => (combF A).map fun c => b ++ (a.1, v) :: c) (.slice vo (i * (combF A).length) vc)) := HOO7.out.kept hgrow (Or.imp_right (fun h => h) (by
        cases hvo : (Value.slice vo (i * (combF A).length) vc).ownBlock with
        | none => exact .inl rfl
        | some q => exact .inr fun e => by have h1 := (HO7.out.low q e.symm).1; have h2 := HOL.out q hvo; omega)) fun q hq _ e => by have h1 := (HO7.out.low q e.symm).1; have h2 := hq.2; omega
      have HOW := Lib.hid hown
      clear hown hgrow hpu HX7 HO7 hk7 HOO7 hb8 HBD7 HYR
      refine hK.out _ _ (fun _ => HS.out _ (HB8.out.mono hws)) (fun hHeld => ?_)
      replace hHeld := hHeld (by decide)
      clear hK K
      try simp only [Act.put, List.setIfInBounds_toArray, List.set_cons_zero, List.set_cons_succ]
      refine wpAnyZ_oneL (i := 15) (by kernel_rfl) rfl (fun K hK => ?_)
      go_simp
      refine hK.out _ _ (fun h => absurd h (by decide)) (fun _ => ?_)
      clear hK K
      try simp only [Act.put, List.setIfInBounds_toArray, List.set_cons_zero, List.set_cons_succ]
      refine wpAnyZ_done (by kernel_rfl) ?_ _
      clear hHeld
      have hz8 := HB8.out.size
      have IHC := Lib.hid (HIH.out (b ++ [(a.1, y)]) (fun q => B q ∨ (wr.heap.size ≤ q ∧ q < w8.heap.size)) (.slice (some ⟨bl, off + 2, none⟩) A.length (ac - 1)) (.slice (some ⟨g8, 0, none⟩) (b.length + 1) p8) w8 (fun q hq => by rcases hq with hq | hq; have := HB.out q hq; omega; exact hq.2) ((HD.out.below (HBW.out.trans (HB8.out.mono hws))).mono fun q hq => .inl hq) (((HOW.out.row (B' := fun q => B q ∨ wr.heap.size ≤ q) (fun q hq => .inl hq) (fun q hq => .inr hq)).lt).mono fun q hq => hq.1.elim .inl fun h => .inr ⟨h, hq.2⟩) hcl2 (by rw [List.length_append]; simp; omega))
      have IHC1 : Hid (ac = 1 → Calls Tryz.prog 31 #[.slice (some ⟨bl, off, none⟩) A.length 0, .slice (some ⟨g8, 0, none⟩) (b.length + 1) p8] w8 fun e w' => ∃ ao cap, e = .returned (.slice ao (combF A).length cap) ∧ EVars.Row (fun q => (B q ∨ (wr.heap.size ≤ q ∧ q < w8.heap.size)) ∨ w8.heap.size ≤ q) w' ((combF A).map fun c => (b ++ [(a.1, y)]) ++ c) (.slice ao (combF A).length cap) ∧ Below w8.heap.size w8 w') := fun h1 => HIH.out (b ++ [(a.1, y)]) (fun q => B q ∨ (wr.heap.size ≤ q ∧ q < w8.heap.size)) (.slice (some ⟨bl, off, none⟩) A.length 0) (.slice (some ⟨g8, 0, none⟩) (b.length + 1) p8) w8 (fun q hq => by rcases hq with hq | hq; have := HB.out q hq; omega; exact hq.2) (.inl ⟨some ⟨bl, off, none⟩, 0, by rw [show A.length = 0 by omega], List.length_eq_zero_iff.1 (by omega)⟩) (((HOW.out.row (B' := fun q => B q ∨ wr.heap.size ≤ q) (fun q hq => .inl hq) (fun q hq => .inr hq)).lt).mono fun q hq => hq.1.elim .inl fun h => .inr ⟨h, hq.2⟩) hcl2 (by rw [List.length_append]; simp; omega)
      go_wp2_with fail
      · have hac1 : ac = 1 := by assumption
        have IHX := Lib.hid (IHC1.out hac1)
        subst hac1
        refine IHX.out.mono ?_
        clear IHX
        rintro e w9 ⟨ro, rc, rfl, hr9, hb9⟩
        have HOX : Hid (EVars.Own 36 W.heap.size (fun q => B q ∨ W.heap.size ≤ q) w9 ((a.2.take i).flatMap fun v => (combF A).map fun c => b ++ (a.1, v) :: c) (.slice vo (i * (combF A).length) vc)) := (HOO8.out.below hb9).mono fun q hq => hq.1
        have HMR : Hid (EVars.Row (fun q => (B q ∨ W.heap.size ≤ q) ∧ (Value.slice vo (i * (combF A).length) vc).ownBlock ≠ some q) w9 ((combF A).map fun c => (b ++ [(a.1, y)]) ++ c) (.slice ro (combF A).length rc)) := hr9.mono fun q hq => by
          rcases hq with (hq | hq) | hq
          · exact ⟨.inl hq, fun e => by have h1 := HOL2.out q e; have h2 := HB.out q hq; omega⟩
          · exact ⟨.inr (by omega), fun e => by have h1 := HOL.out q e; omega⟩
          · exact ⟨.inr (by omega), fun e => by have h1 := HOL.out q e; omega⟩
        have HB9 : Hid (Below W.heap.size W w9) := (HBW.out.trans (HB8.out.mono hws)).trans (hb9.mono (by omega))
        have hs9 := HB9.out.size
        have hl : (combF A).length = ((combF A).map fun c => (b ++ [(a.1, y)]) ++ c).length := (List.length_map ..).symm
        clear hr9 hb9 IHC IHC1 HOW HOO8 HOL HOL2 HIH HD HMC HLC HFL HCL HS HB8 HDR
        generalize ((combF A).map fun c => (b ++ [(a.1, y)]) ++ c) = M at *
        generalize ((a.2.take i).flatMap fun v => (combF A).map fun c => b ++ (a.1, v) :: c) = Lx at *
        generalize (combF A).length = cl at *
        subst hl
        have hlo := HLO.out
        go_wp2_with (refine wpList_own_all (E := EVars) rfl (.tmp 40) (.tmp 44) 23 rfl W.heap.size 36 iV _ 24 Tryz.underlying23 HIV.out hzV hnV hyV rfl Lx _ rfl HOX.out M ro rc HMR.out rfl (by unfold maxLen; omega) (by omega) hs9 ?_)
        intro v9 w10 hown hgrow
        have HB10 : Hid (Below W.heap.size W w10) := HB9.out.trans (below_grown hgrow hs9 (fun q e => (HOX.out.low q e).1))
        rw [← HTK.out] at hown
        have HOW := Lib.hid hown
        clear hown hgrow HOX HMR HB9
        go_wp2_with fail
        go_roundg (a.2.length - (i + 1))
        case measure => omega
        case rel => exact ⟨i + 1, by go_num, by omega, rfl, HOW.out, HB10.out⟩
      · refine IHC.out.mono ?_
        rintro e w9 ⟨ro, rc, rfl, hr9, hb9⟩
        have HOX : Hid (EVars.Own 36 W.heap.size (fun q => B q ∨ W.heap.size ≤ q) w9 ((a.2.take i).flatMap fun v => (combF A).map fun c => b ++ (a.1, v) :: c) (.slice vo (i * (combF A).length) vc)) := (HOO8.out.below hb9).mono fun q hq => hq.1
        have HMR : Hid (EVars.Row (fun q => (B q ∨ W.heap.size ≤ q) ∧ (Value.slice vo (i * (combF A).length) vc).ownBlock ≠ some q) w9 ((combF A).map fun c => (b ++ [(a.1, y)]) ++ c) (.slice ro (combF A).length rc)) := hr9.mono fun q hq => by
          rcases hq with (hq | hq) | hq
          · exact ⟨.inl hq, fun e => by have h1 := HOL2.out q e; have h2 := HB.out q hq; omega⟩
          · exact ⟨.inr (by omega), fun e => by have h1 := HOL.out q e; omega⟩
          · exact ⟨.inr (by omega), fun e => by have h1 := HOL.out q e; omega⟩
        have HB9 : Hid (Below W.heap.size W w9) := (HBW.out.trans (HB8.out.mono hws)).trans (hb9.mono (by omega))
        have hs9 := HB9.out.size
        have hl : (combF A).length = ((combF A).map fun c => (b ++ [(a.1, y)]) ++ c).length := (List.length_map ..).symm
        clear hr9 hb9 IHC IHC1 HOW HOO8 HOL HOL2 HIH HD HMC HLC HFL HCL HS HB8 HDR
        generalize ((combF A).map fun c => (b ++ [(a.1, y)]) ++ c) = M at *
        generalize ((a.2.take i).flatMap fun v => (combF A).map fun c => b ++ (a.1, v) :: c) = Lx at *
        generalize (combF A).length = cl at *
        subst hl
        have hlo := HLO.out
        go_wp2_with (refine wpList_own_all (E := EVars) rfl (.tmp 40) (.tmp 44) 23 rfl W.heap.size 36 iV _ 24 Tryz.underlying23 HIV.out hzV hnV hyV rfl Lx _ rfl HOX.out M ro rc HMR.out rfl (by unfold maxLen; omega) (by omega) hs9 ?_)
        intro v9 w10 hown hgrow
        have HB10 : Hid (Below W.heap.size W w10) := HB9.out.trans (below_grown hgrow hs9 (fun q e => (HOX.out.low q e).1))
        rw [← HTK.out] at hown
        have HOW := Lib.hid hown
        clear hown hgrow HOX HMR HB9
        go_wp2_with fail
        go_roundg (a.2.length - (i + 1))
        case measure => omega
        case rel => exact ⟨i + 1, by go_num, by omega, rfl, HOW.out, HB10.out⟩
    · have hii : ¬ (i : Int) < (a.2.length : Int) := by omega
      have he : i = a.2.length := by omega
      have hr : EVars.Row (fun q => B q ∨ W.heap.size ≤ q) wr ((combF (a :: A)).map fun c => b ++ c) (.slice vo (combF (a :: A)).length vc) := by
        have := HO.out.row (B' := fun q => B q ∨ W.heap.size ≤ q) (fun q hq => hq) (fun q hq => .inr hq)
        rw [he, List.take_length, ← HMC.out, ← HLC.out] at this
        exact this
      have HR := Lib.hid hr
      have HLI : Hid (i * (combF A).length = (combF (a :: A)).length) := by unfold Hid; rw [he, HLC.out]
      clear HO hr he
      rw [HLI.out]
      as_aux_lemma =>
      go_wp2_with fail
      go_ret
      exact ⟨_, _, rfl, HR.out, HBW.out⟩
theorem rcomb_any : ∀ (A : List AX), (∀ a ∈ A, a.2.length ≤ 9223372036854775807) → RcCalls A
  | [], _ => rcomb_nil
  | a :: A, h => rcomb_cons a A (h a (List.mem_cons_self ..)) (rcomb_any A fun x hx => h x (List.mem_cons_of_mem _ hx))
end Go.Proofs.YtomecnncighkgaaGreatDoor
