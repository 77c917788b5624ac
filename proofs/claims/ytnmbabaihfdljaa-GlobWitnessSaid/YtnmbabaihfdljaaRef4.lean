/- The walk over the reference's matches. -/
import Derived.Test.YtnmbabaihfdljaaVec
import Derived.StillTailTactics
namespace Go.Proofs.Ytnmbabaihfdljaa
open Go.RowKit
open Bs

theorem flatP_len (p : RE × Value) : ([Value.int .i64 (p.1.kind : Nat), p.2]).length = 2 := rfl

/-- the k-th element -/
theorem elem_at {w : World} {base : Nat} {v : Value} {ps : List (RE × Value)} (h : ElemsAt w base v ps) {k : Nat} (hk : k < ps.length) :
    ∃ g cap, v = .slice (some ⟨g, 0, none⟩) ps.length cap ∧ base ≤ g ∧ g < w.heap.size ∧ w.cell? ⟨g, k * 2, none⟩ = some (.int .i64 (ps[k].1.kind : Nat)) ∧ w.cell? ⟨g, k * 2 + 1, none⟩ = some ps[k].2 ∧
      w.ownsRow base 53 2 ps[k].2 ps[k].1.items.length (flatI ps[k].1.items) := by
  obtain ⟨g, cap, h1, h2, h3, h4, h5⟩ := ownsRow_at (f := fun p : RE × Value => [Value.int .i64 (p.1.kind : Nat), p.2]) h.1 flatP_len (by decide) hk
  exact ⟨g, cap, h1, h2, h3, h5 0 _ rfl, h5 1 _ rfl, (h.2 _ (List.getElem_mem hk)).1⟩

theorem ElemsAt_below {w w1 : World} {base : Nat} {v : Value} {ps : List (RE × Value)} (h : ElemsAt w base v ps) (hb : Below w.heap.size w w1) : ElemsAt w1 base v ps :=
  ⟨ownsRow_below h.1 hb, fun p hp => ⟨ownsRow_below (h.2 p hp).1 hb, (h.2 p hp).2⟩⟩

theorem BRow_below {w w1 : World} {base : Nat} {v : Value} {bs : List Bool} (h : BRow w base v bs) (hb : Below w.heap.size w w1) : BRow w1 base v bs := ownsRow_below h hb

abbrev absP (ps : List (RE × Value)) : List AE := ps.map fun p => p.1.abs

theorem absP_getD {ps : List (RE × Value)} {k : Nat} (hk : k < ps.length) : (absP ps).getD k (false, fun _ => false) = ps[k].1.abs := by
  simp [absP, List.getD, hk]

def CloseRel (w : World) (A : List AE) (on : List Bool) (t5 : Value) (f : Nat) (t7 : Value) (wr : World) : Prop :=
  ∃ i, t7 = .int .i64 (i : Nat) ∧ i ≤ A.length ∧ f = A.length - i ∧ BRow wr w.heap.size t5 (closeTo A on i) ∧ Below w.heap.size w wr ∧ w.heap.size ≤ wr.heap.size

def StepRel (w1 : World) (A : List AE) (on : List Bool) (c : Nat) (t8 : Value) (f : Nat) (t9 : Value) (wr : World) : Prop :=
  ∃ i, t9 = .int .i64 (i : Nat) ∧ i ≤ A.length ∧ f = A.length - i ∧ BRow wr w1.heap.size t8 (stepTo A on c i) ∧ Below w1.heap.size w1 wr ∧ w1.heap.size ≤ wr.heap.size

def OnRel (w : World) (A : List AE) (l : List UInt8) (f : Nat) (t5 t6 : Value) (wr : World) : Prop :=
  ∃ k, t6 = .int .i64 (k : Nat) ∧ k ≤ l.length ∧ f = l.length + 1 - k ∧ BRow wr w.heap.size t5 (onAt A l k) ∧ Below w.heap.size w wr ∧ w.heap.size ≤ wr.heap.size

set_option maxRecDepth 100000 in
set_option maxHeartbeats 1600000 in
theorem matches_any (ps : List (RE × Value)) (v : Value) (base : Nat) (s : ByteArray) (hs : s.size ≤ 1000000) (hp : ps.length ≤ 4096) (hit : ∀ p ∈ ps, p.1.items.length ≤ 4096) (w : World) (hat : ElemsAt w base v ps) :
    Calls Try.prog 26 #[v, .string s] w fun e w' => e = .returned (.bool (matchF (absP ps) s.data.toList)) ∧ Below w.heap.size w w' := by
  have HS := Lib.hid (Lib.size_eq s)
  obtain ⟨ao, cap, rfl⟩ := ownsRow_form hat.1
  have HAT := Lib.hid hat
  obtain ⟨i4, hi4⟩ := Try.info4'
  have HI4 := Lib.hid hi4
  have hA : (absP ps).length = ps.length := by simp [absP]
  have HA := Lib.hid hA
  have HIT := Lib.hid hit
  clear hat hi4 hA hit
  go_enter Try.func26, Try.ntmps26
  go_wp2_with (at_make; refine wpList_make_full _ rfl _ _ 40 rfl w.heap.size 4 i4 (.bool false) 1 Try.underlying40 HI4.out.1 HI4.out.2.1 HI4.out.2.2.1 _ _ _ _ (ps.length + 1) rfl rfl (by omega) (by omega) (by rw [HI4.out.2.2.2]; omega) (by unfold maxLen; omega) (Nat.le_refl _) ?_; intro w1 hown1 hgrow1; rw [madeBools] at hown1; have HB1 : Hid (BRow w1 w.heap.size (.slice (some ⟨w.heap.size, 0, none⟩) (ps.length + 1) (ps.length + 1)) (List.replicate (ps.length + 1) false)) := (show BRow _ _ _ _ from (by unfold BRow; rw [List.length_replicate]; exact hown1)); obtain ⟨gq, cq, hq, hq1, hq2, hq3, hq4, hq5⟩ := BRow_open HB1.out (by simp); injection hq with e1 e2 e3; injection e1 with e1; injection e1 with e1; subst e1; have hc0 := hq3 0 (by simp); have hf0 := hq4 0; have HST := Lib.hid (hq5 0 true (by simp)); have HG1 := Lib.hid hgrow1; clear hown1 hgrow1 hq3 hq4 hq5 e2 e3; simp at hc0)
  go_loopg [5, 6] (s.data.toList.length + 1) (OnRel w (absP ps) s.data.toList)
  case atStart =>
    refine ⟨0, rfl, Nat.zero_le _, by omega, ?_, ?_, ?_⟩
    · have h := HST.out
      rw [onAt, HA.out]; exact h
    · exact ((Below.refl _ _).grown HG1.out (Nat.le_refl _) (fun k hk => by cases hk)).setCell (by simp) _
    · have := HG1.out.size; simpa using this
  case round =>
    obtain ⟨k, rfl, hk1, hk2, hrow, hbel, hsz⟩ := hrel
    have hks : k ≤ s.size := by have := HS.out; omega
    have HROW := Lib.hid hrow
    have HBel := Lib.hid hbel
    have HK1 := Lib.hid hk1
    have HK2 := Lib.hid hk2
    have hle : (k : Int) ≤ s.size := by omega
    clear hrow hbel hk1 hk2 HST HG1 hq1 hq2 hf0 hc0
    obtain ⟨wo, rfl⟩ : ∃ wo : World, wo = wr := ⟨_, rfl⟩
    obtain ⟨go, rfl⟩ : ∃ go : Nat, go = gk := ⟨_, rfl⟩
    go_wp2_with fail
    go_loopg [7] ((absP ps).length) (CloseRel w (absP ps) (onAt (absP ps) s.data.toList k) u5)
    case atStart => exact ⟨0, rfl, Nat.zero_le _, by omega, HROW.out, HBel.out, hsz⟩
    case round =>
      obtain ⟨i, rfl, hi1, hi2, hrow, hbel, hsz1⟩ := hrel
      have hi1 : i ≤ ps.length := by rw [← HA.out]; exact hi1
      have HROW1 := Lib.hid hrow
      have HBel1 := Lib.hid hbel
      have HI2 := Lib.hid hi2
      clear hrow hbel hi2
      have hlen : (closeTo (absP ps) (onAt (absP ps) s.data.toList k) i).length = ps.length + 1 := by rw [closeTo_length, onAt_length, HA.out]
      by_cases hend : i = ps.length
      · subst hend
        have HROW2 : Hid (BRow wr w.heap.size u5 (closeTo (absP ps) (onAt (absP ps) s.data.toList k) (absP ps).length)) := by rw [HA.out]; exact HROW1.out
        obtain ⟨g0, c0, hv, hg0, hg1, hc, _, _⟩ := BRow_open HROW1.out (by omega)
        rw [hlen] at hv hc
        have hcn := hc ps.length (by omega)
        have HLEN := Lib.hid hlen
        clear hc hlen
        subst hv
        by_cases hks2 : k = s.size
        · have HF : Hid (matchF (absP ps) s.data.toList = (closeTo (absP ps) (onAt (absP ps) s.data.toList k) ps.length).getD ps.length false) := by
            unfold matchF
            rw [← HS.out, ← hks2, HA.out]; rfl
          have hke : ((k : Int) == s.size) = true := by simp [hks2]
          clear hks2
          generalize (closeTo (absP ps) (onAt (absP ps) s.data.toList k) ps.length).getD ps.length false = bb at *
          go_wp2
          go_ret
          exact ⟨by rw [HF.out]; rfl, HBel1.out⟩
        · have hke : ((k : Int) == s.size) = false := by rw [beq_eq_false_iff_ne]; omega
          have hklt : k < s.size := by omega
          clear hks2 hcn
          have hbs := s[k].toNat_lt
          go_wp2_with (at_make; refine wpList_make_full _ rfl _ _ 40 rfl wr.heap.size 4 i4 (.bool false) 1 Try.underlying40 HI4.out.1 HI4.out.2.1 HI4.out.2.2.1 _ _ _ _ (ps.length + 1) rfl rfl (by omega) (by omega) (by rw [HI4.out.2.2.2]; omega) (by unfold maxLen; omega) (Nat.le_refl _) ?_; intro w1 hown1 hgrow1; rw [madeBools] at hown1; have HB1 : Hid (BRow w1 wr.heap.size (.slice (some ⟨wr.heap.size, 0, none⟩) (ps.length + 1) (ps.length + 1)) (List.replicate (ps.length + 1) false)) := (show BRow _ _ _ _ from (by unfold BRow; rw [List.length_replicate]; exact hown1)); have HG1 : Hid (Below wr.heap.size wr w1) := (Below.refl _ _).grown hgrow1 (Nat.le_refl _) (fun k hk => by cases hk); have hw1s : wr.heap.size ≤ w1.heap.size := hgrow1.size; clear hown1 hgrow1)
          obtain ⟨wi, rfl⟩ : ∃ wi : World, wi = wr := ⟨_, rfl⟩
          go_loopg [9] ((absP ps).length) (StepRel wi (absP ps) (closeTo (absP ps) (onAt (absP ps) s.data.toList k) (absP ps).length) s[k].toNat (.slice (some ⟨wi.heap.size, 0, none⟩) (ps.length + 1) (ps.length + 1)))
          case atStart => exact ⟨0, rfl, Nat.zero_le _, by omega, by rw [stepTo, HA.out]; exact HB1.out, HG1.out, hw1s⟩
          case round =>
            obtain ⟨i, rfl, hi1, hi2, hrow, hbel, hsz3⟩ := hrel
            have hi1 : i ≤ ps.length := by rw [← HA.out]; exact hi1
            have HROW3 := Lib.hid hrow
            have HBel3 := Lib.hid hbel
            have HI3 := Lib.hid hi2
            have hlen3 : (stepTo (absP ps) (closeTo (absP ps) (onAt (absP ps) s.data.toList k) (absP ps).length) s[k].toNat i).length = ps.length + 1 := by rw [stepTo_length, HA.out]
            have HLEN3 := Lib.hid hlen3
            clear hrow hbel hi2 hlen3
            by_cases hend : i = ps.length
            · subst hend
              have HF : Hid (stepTo (absP ps) (closeTo (absP ps) (onAt (absP ps) s.data.toList k) (absP ps).length) s[k].toNat ps.length = onAt (absP ps) s.data.toList (k + 1)) := by
                rw [onAt, HA.out, ← str_at rfl k hklt]; rfl
              go_wp2
              go_roundg (s.data.toList.length + 1 - (k + 1))
              case measure => have := HK2.out; have := HS.out; omega
              case rel =>
                refine ⟨k + 1, by go_num, by have := HS.out; omega, rfl, ?_, HBel1.out.trans (HBel3.out.mono hsz1), by omega⟩
                rw [← HF.out]
                exact ownsRow_base HROW3.out hsz1
            · have hlt : i < ps.length := by omega
              clear hend
              have HAT1 := Lib.hid (ElemsAt_below HAT.out ((HBel1.out.trans (HBel3.out.mono hsz1)).mono (Nat.le_refl _)))
              have HON2 := Lib.hid (BRow_below HROW2.out HBel3.out)
              have hSt : stepTo (absP ps) (closeTo (absP ps) (onAt (absP ps) s.data.toList k) (absP ps).length) s[k].toNat (i + 1) = if (closeTo (absP ps) (onAt (absP ps) s.data.toList k) (absP ps).length).getD i false && ps[i].1.fits s[k].toNat then (if ps[i].1.many then (stepTo (absP ps) (closeTo (absP ps) (onAt (absP ps) s.data.toList k) (absP ps).length) s[k].toNat i).set i true else (stepTo (absP ps) (closeTo (absP ps) (onAt (absP ps) s.data.toList k) (absP ps).length) s[k].toNat i).set (i + 1) true) else (stepTo (absP ps) (closeTo (absP ps) (onAt (absP ps) s.data.toList k) (absP ps).length) s[k].toNat i) := by
                rw [stepTo, absP_getD hlt]; rfl
              have HST3 := Lib.hid hSt
              obtain ⟨_, _, hc3, _, _⟩ := BRow_lit HON2.out (by rw [closeTo_length, onAt_length]; omega)
              have hci := hc3 i (by rw [closeTo_length, onAt_length, HA.out]; omega)
              clear hc3 hSt
              cases hon : (closeTo (absP ps) (onAt (absP ps) s.data.toList k) (absP ps).length).getD i false with
              | false =>
                rw [hon] at hci
                have HCL1 : Hid (stepTo (absP ps) (closeTo (absP ps) (onAt (absP ps) s.data.toList k) (absP ps).length) s[k].toNat (i + 1) = (stepTo (absP ps) (closeTo (absP ps) (onAt (absP ps) s.data.toList k) (absP ps).length) s[k].toNat i)) := by rw [HST3.out, hon]; rfl
                clear hon
                go_wp2_with fail
                go_region
                go_wp2
                go_roundg ((absP ps).length - (i + 1))
                case measure => have := HI3.out; have := HA.out; omega
                case rel => exact ⟨i + 1, by go_num, by rw [HA.out]; omega, rfl, by rw [HCL1.out]; exact HROW3.out, HBel3.out.drew, hsz3⟩
              | true =>
                rw [hon] at hci
                obtain ⟨ge, ce, hve, _, hge, hk0, hk1, hrowE⟩ := elem_at HAT1.out hlt
                injection hve with e1 e2 e3
                subst e1
                subst e3
                have HON := Lib.hid hon
                have HRE := Lib.hid hrowE
                clear hon hrowE
                go_wp2_with fail
                have q1 : (i : Int) < (ps.length : Int) + 1 := by omega
                have q2 : (i : Int) < (ps.length : Int) := by omega
                have q3 : (k : Int) < (s.size : Int) := by omega
                refine wp_region_still_tail 12 (by kernel_rfl) (by kernel_rfl) ?_
                simp only [List.take_succ_cons, List.take_zero, List.drop_succ_cons, List.drop_zero]
                repeat still_step
                refine wpStill_nil ?_
                change wpList _ _ _ _ _ wr.drew
                go_wp2_with fail
                refine (fits_any ps[i].1 ps[i].2 base s[k].toNat hbs _ HRE.out.drew (HIT.out _ (List.getElem_mem hlt))).mono ?_
                rintro e w2 ⟨rfl, hb⟩
                have hb : Below wr.heap.size wr w2 := (Below.refl _ _).drew.trans hb
                have HR2 := Lib.hid (BRow_below HROW3.out hb)
                have HB2 := Lib.hid (HBel3.out.trans (hb.mono hsz3))
                have HAT2 := Lib.hid (ElemsAt_below HAT1.out hb)
                have hsz4 : wi.heap.size ≤ w2.heap.size := Nat.le_trans hsz3 hb.size
                clear hb hk0 hk1 hci hge HRE
                cases hfi : ps[i].1.fits s[k].toNat with
                | false =>
                  have HCL1 : Hid (stepTo (absP ps) (closeTo (absP ps) (onAt (absP ps) s.data.toList k) (absP ps).length) s[k].toNat (i + 1) = (stepTo (absP ps) (closeTo (absP ps) (onAt (absP ps) s.data.toList k) (absP ps).length) s[k].toNat i)) := by rw [HST3.out, HON.out, hfi]; rfl
                  clear hfi
                  go_wp2
                  go_roundg ((absP ps).length - (i + 1))
                  case measure => have := HI3.out; have := HA.out; omega
                  case rel => exact ⟨i + 1, by go_num, by rw [HA.out]; omega, rfl, by rw [HCL1.out]; exact HR2.out, HB2.out, hsz4⟩
                | true =>
                  have HCL1 : Hid (stepTo (absP ps) (closeTo (absP ps) (onAt (absP ps) s.data.toList k) (absP ps).length) s[k].toNat (i + 1) = if ps[i].1.many then (stepTo (absP ps) (closeTo (absP ps) (onAt (absP ps) s.data.toList k) (absP ps).length) s[k].toNat i).set i true else (stepTo (absP ps) (closeTo (absP ps) (onAt (absP ps) s.data.toList k) (absP ps).length) s[k].toNat i).set (i + 1) true) := by rw [HST3.out, HON.out, hfi]; rfl
                  obtain ⟨ge2, ce2, hve2, _, hge2, hk0, hk1, _⟩ := elem_at HAT2.out hlt
                  injection hve2 with e1 e2 e3
                  injection e1 with e1
                  injection e1 with e1
                  subst e1
                  clear hfi e2 e3
                  go_wp2_with fail
                  refine (many_any ps[i].1 ps[i].2 _).mono ?_
                  rintro e w3 ⟨rfl, hb⟩
                  have HR3 := Lib.hid (BRow_below HR2.out hb)
                  have HB3 := Lib.hid (HB2.out.trans (hb.mono hsz4))
                  have hsz5 : wi.heap.size ≤ w3.heap.size := Nat.le_trans hsz4 hb.size
                  clear hb hk0 hk1 hge2
                  obtain ⟨hg2, hg3, hc2, hf2, hset2⟩ := BRow_lit HR3.out (by rw [HLEN3.out]; omega)
                  cases hm : ps[i].1.many with
                  | true =>
                    have HCL2 : Hid (stepTo (absP ps) (closeTo (absP ps) (onAt (absP ps) s.data.toList k) (absP ps).length) s[k].toNat (i + 1) = (stepTo (absP ps) (closeTo (absP ps) (onAt (absP ps) s.data.toList k) (absP ps).length) s[k].toNat i).set i true) := by rw [HCL1.out, hm]; rfl
                    have hc2 := hc2 i (by rw [HLEN3.out]; omega)
                    have hf2 := hf2 i
                    have HSET2 := Lib.hid (hset2 i true (by rw [HLEN3.out]; omega))
                    clear hm hset2
                    go_wp2
                    go_roundg ((absP ps).length - (i + 1))
                    case measure => have := HI3.out; have := HA.out; omega
                    case rel => exact ⟨i + 1, by go_num, by rw [HA.out]; omega, rfl, by rw [HCL2.out]; exact HSET2.out, HB3.out.setCell (by omega) _, by simpa using hsz5⟩
                  | false =>
                    have HCL2 : Hid (stepTo (absP ps) (closeTo (absP ps) (onAt (absP ps) s.data.toList k) (absP ps).length) s[k].toNat (i + 1) = (stepTo (absP ps) (closeTo (absP ps) (onAt (absP ps) s.data.toList k) (absP ps).length) s[k].toNat i).set (i + 1) true) := by rw [HCL1.out, hm]; rfl
                    have hc2 := hc2 (i + 1) (by rw [HLEN3.out]; omega)
                    have hf2 := hf2 (i + 1)
                    have HSET2 := Lib.hid (hset2 (i + 1) true (by rw [HLEN3.out]; omega))
                    clear hm hset2
                    go_wp2
                    go_roundg ((absP ps).length - (i + 1))
                    case measure => have := HI3.out; have := HA.out; omega
                    case rel => exact ⟨i + 1, by go_num, by rw [HA.out]; omega, rfl, by rw [HCL2.out]; exact HSET2.out, HB3.out.setCell (by omega) _, by simpa using hsz5⟩
      · have hlt : i < ps.length := by omega
        clear hend
        have HAT1 := Lib.hid (ElemsAt_below HAT.out (HBel1.out.mono (Nat.le_refl _)))
        obtain ⟨g0, c0, hv, hg0, hg1, hc, hfz, hset⟩ := BRow_open HROW1.out (by omega)
        rw [hlen] at hv hc hset
        have hci := hc i (by omega)
        have HFZ := Lib.hid hfz
        have HSET := Lib.hid hset
        have hCl : closeTo (absP ps) (onAt (absP ps) s.data.toList k) (i + 1) = if (closeTo (absP ps) (onAt (absP ps) s.data.toList k) i).getD i false && ps[i].1.many then (closeTo (absP ps) (onAt (absP ps) s.data.toList k) i).set (i + 1) true else closeTo (absP ps) (onAt (absP ps) s.data.toList k) i := by
          rw [closeTo, absP_getD hlt]; rfl
        have HCL := Lib.hid hCl
        have HLEN := Lib.hid hlen
        clear hc hfz hset hCl hlen
        subst hv
        cases hon : (closeTo (absP ps) (onAt (absP ps) s.data.toList k) i).getD i false with
        | false =>
          rw [hon] at hci
          have HCL1 : Hid (closeTo (absP ps) (onAt (absP ps) s.data.toList k) (i + 1) = closeTo (absP ps) (onAt (absP ps) s.data.toList k) i) := by rw [HCL.out, hon]; rfl
          clear hon
          go_wp2
          go_roundg ((absP ps).length - (i + 1))
          case measure => have := HI2.out; have := HA.out; omega
          case rel => exact ⟨i + 1, by go_num, by rw [HA.out]; omega, rfl, by rw [HCL1.out]; exact HROW1.out, HBel1.out, hsz1⟩
        | true =>
          rw [hon] at hci
          obtain ⟨ge, ce, hve, _, hge, hk0, hk1, _⟩ := elem_at HAT1.out hlt
          injection hve with e1 e2 e3
          subst e1
          subst e3
          have HON := Lib.hid hon
          clear hon
          go_wp2_with fail
          refine (many_any ps[i].1 ps[i].2 _).mono ?_
          rintro e w1 ⟨rfl, hb⟩
          have HR1 := Lib.hid (BRow_below HROW1.out hb)
          have HB1 := Lib.hid (HBel1.out.trans (hb.mono hsz1))
          have hsz2 : w.heap.size ≤ w1.heap.size := Nat.le_trans hsz1 hb.size
          clear hb
          cases hm : ps[i].1.many with
          | false =>
            have HCL1 : Hid (closeTo (absP ps) (onAt (absP ps) s.data.toList k) (i + 1) = (closeTo (absP ps) (onAt (absP ps) s.data.toList k) i)) := by rw [HCL.out, HON.out, hm]; rfl
            clear hm
            go_wp2
            go_roundg ((absP ps).length - (i + 1))
            case measure => have := HI2.out; have := HA.out; omega
            case rel => exact ⟨i + 1, by go_num, by rw [HA.out]; omega, rfl, by rw [HCL1.out]; exact HR1.out, HB1.out, hsz2⟩
          | true =>
            have HCL1 : Hid (closeTo (absP ps) (onAt (absP ps) s.data.toList k) (i + 1) = (closeTo (absP ps) (onAt (absP ps) s.data.toList k) i).set (i + 1) true) := by rw [HCL.out, HON.out, hm]; rfl
            obtain ⟨hg2, hg3, hc2, hf2, hset2⟩ := BRow_lit HR1.out (by rw [HLEN.out]; omega)
            have hc2 := hc2 (i + 1) (by rw [HLEN.out]; omega)
            have hf2 := hf2 (i + 1)
            have HSET2 := Lib.hid (hset2 (i + 1) true (by rw [HLEN.out]; omega))
            clear hm hset2
            go_wp2
            go_roundg ((absP ps).length - (i + 1))
            case measure => have := HI2.out; have := HA.out; omega
            case rel => exact ⟨i + 1, by go_num, by rw [HA.out]; omega, rfl, by rw [HCL1.out]; exact HSET2.out, HB1.out.setCell (by omega) _, by simpa using hsz2⟩
end Go.Proofs.Ytnmbabaihfdljaa
