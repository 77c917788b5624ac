/- The walk over matrix.Valid. -/
import Derived.Test.YtomecnncighkgaaGreatDoorMw3m
namespace Go.Proofs.YtomecnncighkgaaGreatDoor
open Go.RowKit Go.Deep

/-- the error of the lists from the j-th on -/
def restE (m : MX) : Nat → Nat
  | 0 => if patsF m.incl ≠ 0 then patsF m.incl else patsF m.excl
  | 1 => patsF m.excl
  | _ => 0
theorem valid_rest (m : MX) (h : ¬ 8 < m.axes.length) (ha : axTo [] m.axes = 0) : validM m = restE m 0 := by
  unfold validM restE
  rw [if_neg h, if_neg (fun q => q ha)]
  rfl
def VxRel (m : MX) (r : Nat) (w1 : World) (f : Nat) (t18 : Value) (wr : World) : Prop :=
  ∃ i : Nat, t18 = .int .i64 (i : Nat) ∧ i ≤ m.axes.length ∧ f = m.axes.length - i ∧ r = axTo (m.axes.take i) (m.axes.drop i) ∧ Below w1.heap.size w1 wr
def VoRel (m : MX) (r : Nat) (w1 : World) (f : Nat) (t46 : Value) (wr : World) : Prop :=
  ∃ i : Nat, t46 = .int .i64 (i : Nat) ∧ i ≤ 2 ∧ f = 2 - i ∧ r = restE m i ∧ Below w1.heap.size w1 wr
def VpRel (I : List (List VR)) (r : Nat) (w1 : World) (f : Nat) (t55 : Value) (wr : World) : Prop :=
  ∃ i : Nat, t55 = .int .i64 (i : Nat) ∧ i ≤ I.length ∧ f = I.length - i ∧ r = patsTo (I.drop i) ∧ Below w1.heap.size w1 wr
theorem rest_at (m : MX) (io eo : Option Addr) (ic ec : Nat) {B : Nat → Prop} {w : World} (h1 : EVars.Row B w m.incl (.slice io m.incl.length ic)) (h2 : EVars.Row B w m.excl (.slice eo m.excl.length ec)) (hw : m.wf) (b : Nat)
    (hk : w.heap[b]? = some (.cells #[.slice io m.incl.length ic, .slice eo m.excl.length ec] 23 (0, 0))) {r j : Nat} (hj : j < 2) (hr : r = restE m j) :
    ∃ (I : List (List VR)) (ao : Option Addr) (c : Nat), w.cell? ⟨b, j, none⟩ = some (.slice ao I.length c) ∧ EVars.Row B w I (.slice ao I.length c) ∧ I.length ≤ 9223372036854775807 ∧ (∀ L ∈ I, wfVars L) ∧ (patsF I ≠ 0 → r = patsF I) ∧ (patsF I = 0 → r = restE m (j + 1)) := by
  match j, hj with
  | 0, _ => exact ⟨m.incl, io, ic, cell_of_blk hk 0, h1, hw.li, hw.inc, fun k => by rw [hr, restE, if_pos k], fun k => by rw [hr, restE, if_neg (fun q => q k)]; rfl⟩
  | 1, _ => exact ⟨m.excl, eo, ec, cell_of_blk hk 1, h2, hw.le, hw.exc, fun k => by rw [hr]; rfl, fun k => by rw [hr, restE, k]; rfl⟩
set_option maxRecDepth 100000 in
set_option maxHeartbeats 3200000 in
theorem mvalid_any (m : MX) (v : Value) (B : Nat → Prop) (hm : m.wf) (w : World) (h : MAt B w v m) :
    Calls Tryz.prog 13 #[v] w fun e w' => e = .returned (.int .i64 (validM m : Nat)) ∧ Below w.heap.size w w' := by
  obtain ⟨ao, ac, io, ic, eo, ec, rfl, hA, hI, hE⟩ := h
  obtain ⟨W1, hW1⟩ : ∃ W1, w.alloc (.cells #[.slice ao m.axes.length ac, .slice io m.incl.length ic, .slice eo m.excl.length ec] 25 (0, 0)) = W1 := ⟨_, rfl⟩
  have hk1 : W1.heap[w.heap.size]? = some (.cells #[.slice ao m.axes.length ac, .slice io m.incl.length ic, .slice eo m.excl.length ec] 25 (0, 0)) := by rw [← hW1]; exact hp_new rfl
  have hb1 : Below w.heap.size w W1 := by rw [← hW1]; exact (Below.refl _ w).alloc (Nat.le_refl _) _
  have HLT : Hid (w.heap.size < W1.heap.size) := (Array.getElem?_eq_some_iff.1 hk1).1
  have HK1 := Lib.hid hk1
  have HBX : Hid (∀ W', Below W1.heap.size W1 W' → W'.cell? ⟨w.heap.size, 0, none⟩ = some (.slice ao m.axes.length ac) ∧ W'.cell? ⟨w.heap.size, 1, none⟩ = some (.slice io m.incl.length ic) ∧ W'.cell? ⟨w.heap.size, 2, none⟩ = some (.slice eo m.excl.length ec)) := fun W' hb => by
    have q := (hb.block _ HLT.out).trans HK1.out
    exact ⟨cell_of_blk q 0, cell_of_blk q 1, cell_of_blk q 2⟩
  have HA := Lib.hid (hA.below hb1)
  have HI := Lib.hid (hI.below hb1)
  have HE := Lib.hid (hE.below hb1)
  have HM := Lib.hid hm
  have HB0 := Lib.hid hb1
  obtain ⟨p0, p1, p2⟩ := HBX.out W1 (Below.refl _ _)
  clear hA hI hE hm hb1 hk1 HLT HK1
  by_cases h8 : 8 < m.axes.length
  · have t1 : (8 : Int) < (m.axes.length : Int) := by omega
    have HN : Hid (validM m = 15) := if_pos h8
    generalize validM m = r at *
    clear HA HI HE HM HBX h8
    as_aux_lemma =>
    go_enter Tryz.func13, Tryz.ntmps13
    go_wp2_with fail
    go_ret
    exact ⟨by rw [HN.out] <;> rfl, HB0.out⟩
  have t1 : decide ((8 : Int) < (m.axes.length : Int)) = false := decide_eq_false (by omega)
  have t1b : ¬ (8 : Int) < (m.axes.length : Int) := by omega
  have HVA : Hid (axTo [] m.axes ≠ 0 → validM m = axTo [] m.axes) := fun k => by unfold validM; rw [if_neg h8, if_pos k]
  have HVR : Hid (axTo [] m.axes = 0 → validM m = restE m 0) := fun k => valid_rest m h8 k
  have HZ : Hid (axTo [] m.axes = axTo (m.axes.take 0) (m.axes.drop 0)) := rfl
  generalize axTo [] m.axes = av at *
  generalize validM m = r at *
  clear h8
  go_enter Tryz.func13, Tryz.ntmps13
  go_wp2_with fail
  clear p0 p1 p2 hW1
  go_loopg [18] m.axes.length (VxRel m av W1)
  case atStart => exact ⟨0, rfl, Nat.zero_le _, rfl, HZ.out, Below.refl _ _⟩
  case round =>
    obtain ⟨i, rfl, hi, rfl, hk, hbel⟩ := hrel
    have HB := Lib.hid hbel
    have HK := Lib.hid hk
    clear hbel hk
    obtain ⟨p0, p1, p2⟩ := HBX.out wr HB.out
    by_cases hlt : i < m.axes.length
    · have hii : (i : Int) < (m.axes.length : Int) := by omega
      have hrow := HA.out.below HB.out
      have hicap := row_cap hrow hlt
      have hcc : (i : Int) ≤ (ac : Int) := by omega
      obtain ⟨bl, off, a1, c1, rfl, hbl, e0, e1, hvr⟩ := eax_at hrow hlt
      have hwx := HM.out.ax _ (List.getElem_mem hlt)
      have hrt := hrow.take (c2 := ac) (Nat.le_of_lt hlt) hicap
      have hlti : (m.axes.take i).length ≤ 9223372036854775807 := by have := HM.out.la; rw [List.length_take]; omega
      have HS := Lib.hid (ax_round hlt HK.out)
      clear hrow HK
      generalize m.axes[i] = x at *
      have HBX0 := HBX
      clear HBX
      obtain ⟨W2, hW2⟩ : ∃ W2, wr.alloc (.cells #[.string x.1, .slice a1 x.2.length c1] 50 (0, 0)) = W2 := ⟨_, rfl⟩
      have hk2 : W2.heap[wr.heap.size]? = some (.cells #[.string x.1, .slice a1 x.2.length c1] 50 (0, 0)) := by rw [← hW2]; exact hp_new rfl
      have hb2 : Below wr.heap.size wr W2 := by rw [← hW2]; exact (Below.refl _ wr).alloc (Nat.le_refl _) _
      have HLT : Hid (wr.heap.size < W2.heap.size) := (Array.getElem?_eq_some_iff.1 hk2).1
      have HK2 := Lib.hid hk2
      have HBX : Hid (∀ W', Below W2.heap.size W2 W' → W'.cell? ⟨wr.heap.size, 0, none⟩ = some (.string x.1) ∧ W'.cell? ⟨wr.heap.size, 1, none⟩ = some (.slice a1 x.2.length c1)) := fun W' hb => by
        have q := (hb.block _ HLT.out).trans HK2.out
        exact ⟨cell_of_blk q 0, cell_of_blk q 1⟩
      have CF : Hid (∀ W, Below W2.heap.size W2 W → Calls Tryz.prog 36 #[.slice (some ⟨bl, off, none⟩) i ac, .func (.func 37) #[] #[.pointer (some ⟨wr.heap.size, 0, none⟩)]] W fun e w' => e = .returned (.bool ((m.axes.take i).any (fun y => y.1.toList == x.1.toList))) ∧ Below W.heap.size W w') := fun W hW =>
        acontf_any 37 #[.pointer (some ⟨wr.heap.size, 0, none⟩)] (fun y => y.1.toList == x.1.toList) (m.axes.take i) (.slice (some ⟨bl, off, none⟩) i ac) B hlti W (hrt.below (hb2.trans (hW.mono hb2.size))) (fun k hk cs W' hW' hR => by
          obtain ⟨lo, lc, rfl, _⟩ := eax_two hR
          exact mvalid1_any x.1 _ _ _ _ _ W' (HBX.out W' (hW.trans (hW'.mono hW.size))).1) mvalid1Enters
      have AX := fun W (hW : Below W2.heap.size W2 W) => Lib.hid (axis_any x.2 _ B hwx.2.1 hwx.2.2 W (hvr.below (hb2.trans (hW.mono hb2.size))))
      have NM := Lib.hid (named_any x.1 W2)
      have HB2 := Lib.hid (HB.out.trans (hb2.mono HB.out.size))
      obtain ⟨q0, q1⟩ := HBX.out W2 (Below.refl _ _)
      have CF2 := Lib.hid (CF.out W2 (Below.refl _ _))
      obtain ⟨s0, s1, s2⟩ := HBX0.out W2 HB2.out
      clear hk2 hb2 hvr hwx hrt hlti HLT HK2 CF
      generalize valsF x.2 = ve at *
      generalize keyOk x.1 = kk at *
      generalize (m.axes.take i).any (fun y => y.1.toList == x.1.toList) = dd at *
      as_aux_lemma =>
      go_wp2_with fail
      refine NM.out.mono ?_
      rintro e w3 ⟨rfl, rfl⟩
      clear NM
      cases kk with
      | false =>
        have HN : Hid (r = 1) := by have := HS.out.1 rfl; unfold Hid; rw [HVA.out (by omega), this]
        clear HS AX CF2 HBX HBX0 HVA HVR
        as_aux_lemma =>
        go_wp2_with fail
        go_ret
        exact ⟨by rw [HN.out] <;> rfl, HB0.out.trans (HB2.out.mono HB0.out.size)⟩
      | true =>
        have HS2 := Lib.hid (HS.out.2 rfl)
        clear HS
        as_aux_lemma =>
        go_wp2_with fail
        refine CF2.out.mono ?_
        rintro e w3 ⟨rfl, hb3⟩
        have HB3 := Lib.hid (HB2.out.trans (hb3.mono HB2.out.size))
        have AX3 := AX w3 hb3
        obtain ⟨u0, u1⟩ := HBX.out w3 hb3
        clear CF2 AX hb3 hW2 e0 e1 q0 q1 s0 s1 s2 p0 p1 p2
        cases dd with
        | true =>
          have HN : Hid (r = 7) := by have := HS2.out.1 rfl; unfold Hid; rw [HVA.out (by omega), this]
          clear HS2 AX3 HBX HBX0 HVA HVR
          go_wp2_with fail
          go_ret
          exact ⟨by rw [HN.out] <;> rfl, HB0.out.trans (HB3.out.mono HB0.out.size)⟩
        | false =>
          have HS3 := Lib.hid (HS2.out.2 rfl)
          clear HS2
          go_wp2_with fail
          refine AX3.out.mono ?_
          rintro e w5 ⟨rfl, hb5⟩
          have HB5 := Lib.hid (HB3.out.trans (hb5.mono HB3.out.size))
          clear AX3 hb5 u0 u1
          by_cases hv : ve = 0
          · have t3b : ((ve : Int) == 0) = true := by rw [hv]; rfl
            have t3 : ((ve : Int) != 0) = false := by rw [hv]; rfl
            have HN := Lib.hid (HS3.out.2 hv)
            clear HS3 hv HBX
            go_wp2_with fail
            go_roundg (m.axes.length - (i + 1))
            case measure => omega
            case rel => exact ⟨i + 1, by go_num, by omega, rfl, HN.out, HB5.out⟩
          · have t3b : ((ve : Int) == 0) = false := by rw [beq_eq_false_iff_ne]; omega
            have t3 : ((ve : Int) != 0) = true := by simp [bne, t3b]
            have HN : Hid (r = ve) := by have := HS3.out.1 hv; unfold Hid; rw [HVA.out (by rw [this]; exact hv), this]
            clear HS3 hv HBX HBX0 HVA HVR
            go_wp2_with fail
            go_ret
            exact ⟨by rw [HN.out] <;> rfl, HB0.out.trans (HB5.out.mono HB0.out.size)⟩
    · have hii : ¬ (i : Int) < (m.axes.length : Int) := by omega
      have he : i = m.axes.length := by omega
      have hav : av = 0 := by rw [HK.out, he, List.drop_length]; rfl
      have HR0 := Lib.hid (HVR.out hav)
      obtain ⟨W2, hW2⟩ : ∃ W2, wr.alloc (.cells #[.slice io m.incl.length ic, .slice eo m.excl.length ec] 23 (0, 0)) = W2 := ⟨_, rfl⟩
      have HK2 : Hid (W2.heap[wr.heap.size]? = some (.cells #[.slice io m.incl.length ic, .slice eo m.excl.length ec] 23 (0, 0))) := by unfold Hid; rw [← hW2]; exact hp_new rfl
      have hb2 : Below wr.heap.size wr W2 := by rw [← hW2]; exact (Below.refl _ wr).alloc (Nat.le_refl _) _
      have HLT2 : Hid (wr.heap.size < W2.heap.size) := (Array.getElem?_eq_some_iff.1 HK2.out).1
      have HI2 := Lib.hid (HI.out.below (HB.out.trans (hb2.mono HB.out.size)))
      have HE2 := Lib.hid (HE.out.below (HB.out.trans (hb2.mono HB.out.size)))
      have HB2 := Lib.hid (HB0.out.trans ((HB.out.trans (hb2.mono HB.out.size)).mono HB0.out.size))
      clear HVA HVR hav he HK HA HBX hb2 HI HE HZ
      as_aux_lemma =>
      go_wp2_with fail
      generalize wr.heap.size = lb at *
      clear hW2 p0 p1 p2 HB HB0
      go_loopg [46] 2 (VoRel m r W2)
      case atStart => exact ⟨0, rfl, Nat.zero_le _, rfl, HR0.out, Below.refl _ _⟩
      case round =>
        obtain ⟨j, rfl, hj, rfl, hk, hbel⟩ := hrel
        have HB := Lib.hid hbel
        have HK := Lib.hid hk
        clear hbel hk
        by_cases hlt : j < 2
        · have hjj : (j : Int) < 2 := by omega
          obtain ⟨I, ao2, c2, x0, hrow, hlI, hwI, hp1, hp2⟩ := rest_at m io eo ic ec (HI2.out.below HB.out) (HE2.out.below HB.out) HM.out lb ((HB.out.block _ HLT2.out).trans HK2.out) hlt HK.out
          have HROW := Lib.hid hrow
          have HWI := Lib.hid hwI
          have HP1 := Lib.hid hp1
          have HP2 := Lib.hid hp2
          clear hrow hwI hp1 hp2 HK
          by_cases hbig : 1024 < I.length
          · have t3 : (1024 : Int) < (I.length : Int) := by omega
            have HN : Hid (r = 3) := by
              have e : patsF I = 3 := if_pos hbig
              unfold Hid
              rw [HP1.out (by rw [e]; decide), e]
            clear HP1 HP2 hbig HROW HWI
            as_aux_lemma =>
            go_wp2_with fail
            go_ret
            exact ⟨by rw [HN.out] <;> rfl, HB2.out.trans (HB.out.mono HB2.out.size)⟩
          have t3 : decide ((1024 : Int) < (I.length : Int)) = false := decide_eq_false (by omega)
          have t3b : ¬ (1024 : Int) < (I.length : Int) := by omega
          have HZ : Hid (patsF I = patsTo (I.drop 0)) := if_neg hbig
          generalize patsF I = pv at *
          clear hbig
          as_aux_lemma =>
          go_wp2_with fail
          have HBW := HB
          clear HB
          go_loopg [55] I.length (VpRel I pv wr)
          case atStart => exact ⟨0, rfl, Nat.zero_le _, rfl, HZ.out, Below.refl _ _⟩
          case round =>
            rename_i wr2 _ _
            obtain ⟨k, rfl, hk, rfl, hk2, hbel⟩ := hrel
            have HB := Lib.hid hbel
            have HK := Lib.hid hk2
            clear hbel hk2
            by_cases hlk : k < I.length
            · have hkk : (k : Int) < (I.length : Int) := by omega
              obtain ⟨bl, off, a3, c3, rfl, hbl, y0, hvr⟩ := evars_at (HROW.out.below HB.out) hlk
              have hwx := HWI.out _ (List.getElem_mem hlk)
              have PC := Lib.hid (proper_any I[k] _ B hwx.1 (fun x hx => (hwx.2 x hx).2) _ hvr)
              have HS := Lib.hid (pats_round hlk HK.out)
              clear hvr hwx HK
              generalize propF I[k] = pe at *
              generalize I[k].length = ln at *
              as_aux_lemma =>
              go_wp2_with fail
              refine PC.out.mono ?_
              rintro e w5 ⟨rfl, hb5⟩
              have HB5 := Lib.hid (HB.out.trans (hb5.mono HB.out.size))
              clear PC hb5 y0
              by_cases hv : pe = 0
              · have t4b : ((pe : Int) == 0) = true := by rw [hv]; rfl
                have t4 : ((pe : Int) != 0) = false := by rw [hv]; rfl
                have HN := Lib.hid (HS.out.2 hv)
                clear HS hv
                go_wp2_with fail
                go_roundg (I.length - (k + 1))
                case measure => omega
                case rel => exact ⟨k + 1, by go_num, by omega, rfl, HN.out, HB5.out⟩
              · have t4b : ((pe : Int) == 0) = false := by rw [beq_eq_false_iff_ne]; omega
                have t4 : ((pe : Int) != 0) = true := by simp [bne, t4b]
                have HN : Hid (r = pe) := by have := HS.out.1 hv; unfold Hid; rw [HP1.out (by rw [this]; exact hv), this]
                clear HS hv
                go_wp2_with fail
                go_ret
                exact ⟨by rw [HN.out] <;> rfl, HB2.out.trans ((HBW.out.trans (HB5.out.mono HBW.out.size)).mono HB2.out.size)⟩
            · have hkk : ¬ (k : Int) < (I.length : Int) := by omega
              have he : k = I.length := by omega
              have HN : Hid (r = restE m (j + 1)) := HP2.out (by rw [HK.out, he, List.drop_length]; rfl)
              clear HK he HP1 HP2
              as_aux_lemma =>
              go_wp2_with fail
              go_roundg (2 - (j + 1))
              case measure => omega
              case rel => exact ⟨j + 1, by go_num, by omega, rfl, HN.out, HBW.out.trans (HB.out.mono HBW.out.size)⟩
        · have hjj : ¬ (j : Int) < 2 := by omega
          have he : j = 2 := by omega
          have HN : Hid (r = 0) := by unfold Hid; rw [HK.out, he]; rfl
          clear HK he
          as_aux_lemma =>
          go_wp2_with fail
          go_ret
          exact ⟨by rw [HN.out] <;> rfl, HB2.out.trans (HB.out.mono HB2.out.size)⟩
end Go.Proofs.YtomecnncighkgaaGreatDoor
