/- The steps of the matching, on lists of bools; slices of bools of the call's own. -/
import Derived.Test.YtghahghbahcpfaaGreatDoorVg3
import Derived.StillTailTactics
namespace Go.Proofs.YtghahghbahcpfaaGreatDoor.G6
open Go.RowKit
open Bs

/-- an element: does it match any number of bytes, and which bytes does it match? -/
abbrev AE := Bool × (Nat → Bool)

def closeTo (A : List AE) (on : List Bool) : Nat → List Bool
  | 0 => on
  | i + 1 => if (closeTo A on i).getD i false && (A.getD i (false, fun _ => false)).1 then (closeTo A on i).set (i + 1) true else closeTo A on i

def stepTo (A : List AE) (on : List Bool) (c : Nat) : Nat → List Bool
  | 0 => List.replicate (A.length + 1) false
  | i + 1 => if on.getD i false && (A.getD i (false, fun _ => false)).2 c then
      (if (A.getD i (false, fun _ => false)).1 then (stepTo A on c i).set i true else (stepTo A on c i).set (i + 1) true) else stepTo A on c i

theorem closeTo_length (A : List AE) (on : List Bool) (i : Nat) : (closeTo A on i).length = on.length := by
  induction i with
  | zero => rfl
  | succ i ih => rw [closeTo]; split <;> simp [ih]

theorem stepTo_length (A : List AE) (on : List Bool) (c : Nat) (i : Nat) : (stepTo A on c i).length = A.length + 1 := by
  induction i with
  | zero => simp [stepTo]
  | succ i ih => rw [stepTo]; (repeat' split) <;> simp [ih]

/-- the elements that k bytes can have left behind them -/
def onAt (A : List AE) (l : List UInt8) : Nat → List Bool
  | 0 => (List.replicate (A.length + 1) false).set 0 true
  | k + 1 => stepTo A (closeTo A (onAt A l k) A.length) (l.getD k 0).toNat A.length

theorem onAt_length (A : List AE) (l : List UInt8) (k : Nat) : (onAt A l k).length = A.length + 1 := by
  cases k with
  | zero => simp [onAt]
  | succ k => exact stepTo_length _ _ _ _

def matchF (A : List AE) (l : List UInt8) : Bool := (closeTo A (onAt A l l.length) A.length).getD A.length false

/-- a slice of bools of the call's own -/
def BRow (w : World) (base : Nat) (v : Value) (bs : List Bool) : Prop := w.ownsRow base 4 1 v bs.length (bs.map Value.bool)

theorem BRow_open {w : World} {base : Nat} {v : Value} {bs : List Bool} (h : BRow w base v bs) (hne : 0 < bs.length) :
    ∃ g cap, v = .slice (some ⟨g, 0, none⟩) bs.length cap ∧ base ≤ g ∧ g < w.heap.size ∧ (∀ i, i < bs.length → w.cell? ⟨g, i, none⟩ = some (.bool (bs.getD i false))) ∧ (∀ i, w.frozen? ⟨g, i, none⟩ = false) ∧
      (∀ i b, i < bs.length → BRow (w.setCell ⟨g, i, none⟩ (.bool b)) base v (bs.set i b)) := by
  obtain ⟨hl, hr⟩ := h
  rcases hr with ⟨_, h0⟩ | ⟨g, cap, cur, hv, hb, hg, hn, hm, hs, ht⟩
  · omega
  · have hcur : ∀ i, i < bs.length → cur[i]? = some (.bool (bs.getD i false)) := by
      intro i hi
      have : (cur.toList.take (bs.length * 1))[i]? = (bs.map Value.bool)[i]? := by rw [ht]
      rw [List.getElem?_take, if_pos (by omega)] at this
      rw [← Array.getElem?_toList, this]
      simp [List.getD, hi]
    refine ⟨g, cap, hv, hb, (Array.getElem?_eq_some_iff.1 hg).1, ?_, fun i => free_of_blk hg i, ?_⟩
    · intro i hi
      rw [cell_of_blk hg, hcur i hi]
    · intro i b hi
      have hW := wrote_setCell hg i (.bool b)
      refine ⟨by simp, .inr ⟨g, cap, _, by rw [List.length_set]; exact hv, hb, hW.at_, by rw [List.length_set]; exact hn, hm, by simp [hs], ?_⟩⟩
      rw [Array.toList_setIfInBounds, List.take_set, List.length_set, ht]
      rw [List.map_set]

theorem BRow_lit {w : World} {base g n cap : Nat} {bs : List Bool} (h : BRow w base (.slice (some ⟨g, 0, none⟩) n cap) bs) (hne : 0 < bs.length) :
    base ≤ g ∧ g < w.heap.size ∧ (∀ i, i < bs.length → w.cell? ⟨g, i, none⟩ = some (.bool (bs.getD i false))) ∧ (∀ i, w.frozen? ⟨g, i, none⟩ = false) ∧
      (∀ i b, i < bs.length → BRow (w.setCell ⟨g, i, none⟩ (.bool b)) base (.slice (some ⟨g, 0, none⟩) n cap) (bs.set i b)) := by
  obtain ⟨g', cap', hv, h1, h2, h3, h4, h5⟩ := BRow_open h hne
  injection hv with e1 e2 e3
  injection e1 with e1
  injection e1 with e1
  subst e1
  exact ⟨h1, h2, h3, h4, h5⟩

theorem madeBools (n : Nat) : (madeCells (Value.bool false).cells (n * 1)).toList = (List.replicate n false).map Value.bool := by
  simp [madeCells, Value.cells, Nat.mod_one, List.map_const']

theorem Tryz.infoG4 : (Tryz.prog.info? 4).map (fun i => (i.zero, i.size, i.bytes)) = some (some (.bool false), 1, 1) := by kernel_rfl
theorem Tryz.infoG4' : ∃ i, Tryz.prog.info? 4 = some i ∧ i.zero = some (.bool false) ∧ i.size = 1 ∧ i.bytes = 1 := info_parts Tryz.infoG4

def RE.abs (e : RE) : AE := (e.many, e.fits)
def El.abs (e : El) : AE := (e.many, fun c => e.set.testBit c)
end Go.Proofs.YtghahghbahcpfaaGreatDoor.G6
/- The walk over the reference's matches. -/
namespace Go.Proofs.YtghahghbahcpfaaGreatDoor.G6
open Go.RowKit
open Bs

theorem flatP_len (p : RE × Value) : ([Value.int .i64 (p.1.kind : Nat), p.2]).length = 2 := rfl

/-- the k-th element -/
theorem elem_at {w : World} {base : Nat} {v : Value} {ps : List (RE × Value)} (h : ElemsAt w base v ps) {k : Nat} (hk : k < ps.length) :
    ∃ g cap, v = .slice (some ⟨g, 0, none⟩) ps.length cap ∧ base ≤ g ∧ g < w.heap.size ∧ w.cell? ⟨g, k * 2, none⟩ = some (.int .i64 (ps[k].1.kind : Nat)) ∧ w.cell? ⟨g, k * 2 + 1, none⟩ = some ps[k].2 ∧
      w.ownsRow base 203 2 ps[k].2 ps[k].1.items.length (flatI ps[k].1.items) := by
  obtain ⟨g, cap, h1, h2, h3, h4, h5⟩ := ownsRow_at (f := fun p : RE × Value => [Value.int .i64 (p.1.kind : Nat), p.2]) h.1 flatP_len (by decide) hk
  exact ⟨g, cap, h1, h2, h3, h5 0 _ rfl, h5 1 _ rfl, (h.2 _ (List.getElem_mem hk)).1⟩

theorem ElemsAt_below {w w1 : World} {base : Nat} {v : Value} {ps : List (RE × Value)} (h : ElemsAt w base v ps) (hb : Below w.heap.size w w1) : ElemsAt w1 base v ps :=
  ⟨ownsRow_below h.1 hb, fun p hp => ⟨ownsRow_below (h.2 p hp).1 hb, (h.2 p hp).2⟩⟩

theorem BRow_below {w w1 : World} {base : Nat} {v : Value} {bs : List Bool} (h : BRow w base v bs) (hb : Below w.heap.size w w1) : BRow w1 base v bs := ownsRow_below h hb

abbrev absP (ps : List (RE × Value)) : List AE := ps.map fun p => p.1.abs

theorem absP_getD {ps : List (RE × Value)} {k : Nat} (hk : k < ps.length) : (absP ps).getD k (false, fun _ => false) = ps[k].1.abs := by
  simp [absP, List.getD, hk]

def CloseRel (w : World) (A : List AE) (on : List Bool) (t5 : Value) (f : Nat) (t7 : Value) (wr : World) : Prop :=
  ∃ i, t7 = .int .i64 (i : Nat) ∧ i ≤ A.length ∧ f = A.length - i ∧ BRow wr w.heap.size t5 (closeTo A on i) ∧ Below w.heap.size w wr ∧ w.heap.size ≤ wr.heap.size

def StepRel (w1 : World) (A : List AE) (on : List Bool) (c : Nat) (t8 : Value) (f : Nat) (t9 : Value) (wr : World) : Prop :=
  ∃ i, t9 = .int .i64 (i : Nat) ∧ i ≤ A.length ∧ f = A.length - i ∧ BRow wr w1.heap.size t8 (stepTo A on c i) ∧ Below w1.heap.size w1 wr ∧ w1.heap.size ≤ wr.heap.size

def OnRel (w : World) (A : List AE) (l : List UInt8) (f : Nat) (t5 t6 : Value) (wr : World) : Prop :=
  ∃ k, t6 = .int .i64 (k : Nat) ∧ k ≤ l.length ∧ f = l.length + 1 - k ∧ BRow wr w.heap.size t5 (onAt A l k) ∧ Below w.heap.size w wr ∧ w.heap.size ≤ wr.heap.size

set_option maxRecDepth 100000 in
set_option maxHeartbeats 1600000 in
theorem matches_any (ps : List (RE × Value)) (v : Value) (base : Nat) (s : ByteArray) (hs : s.size ≤ 1000000) (hp : ps.length ≤ 4096) (hit : ∀ p ∈ ps, p.1.items.length ≤ 4096) (w : World) (hat : ElemsAt w base v ps) :
    Calls Tryz.prog 114 #[v, .string s] w fun e w' => e = .returned (.bool (matchF (absP ps) s.data.toList)) ∧ Below w.heap.size w w' := by
  have HS := Lib.hid (Lib.size_eq s)
  obtain ⟨ao, cap, rfl⟩ := ownsRow_form hat.1
  have HAT := Lib.hid hat
  obtain ⟨i4, hi4⟩ := Tryz.infoG4'
  have HI4 := Lib.hid hi4
  have hA : (absP ps).length = ps.length := by simp [absP]
  have HA := Lib.hid hA
  have HIT := Lib.hid hit
  clear hat hi4 hA hit
  go_enter Tryz.func114, Tryz.ntmps114
  go_wp2_with (at_make; refine wpList_make_full _ rfl _ _ 168 rfl w.heap.size 4 i4 (.bool false) 1 Tryz.underlying168 HI4.out.1 HI4.out.2.1 HI4.out.2.2.1 _ _ _ _ (ps.length + 1) rfl rfl (by omega) (by omega) (by rw [HI4.out.2.2.2]; omega) (by unfold maxLen; omega) (Nat.le_refl _) ?_; intro w1 hown1 hgrow1; rw [madeBools] at hown1; have HB1 : Hid (BRow w1 w.heap.size (.slice (some ⟨w.heap.size, 0, none⟩) (ps.length + 1) (ps.length + 1)) (List.replicate (ps.length + 1) false)) := (show BRow _ _ _ _ from (by unfold BRow; rw [List.length_replicate]; exact hown1)); obtain ⟨gq, cq, hq, hq1, hq2, hq3, hq4, hq5⟩ := BRow_open HB1.out (by simp); injection hq with e1 e2 e3; injection e1 with e1; injection e1 with e1; subst e1; have hc0 := hq3 0 (by simp); have hf0 := hq4 0; have HST := Lib.hid (hq5 0 true (by simp)); have HG1 := Lib.hid hgrow1; clear hown1 hgrow1 hq3 hq4 hq5 e2 e3; simp at hc0)
  go_loopg [5, 6] (s.data.toList.length + 1) (OnRel w (absP ps) s.data.toList)
  case atStart =>
    refine ⟨0, rfl, Nat.zero_le _, by omega, ?_, ?_, ?_⟩
    · have h := HST.out
      rw [onAt, HA.out]; exact h
    · exact ((Below.refl _ _).grown HG1.out (Nat.le_refl _) (fun k hk => by cases hk)).setCell (by simp) _
    · have := HG1.out.size; simpa using this
  case round =>
    obtain ⟨k, rfl, hk1, hk2, hrow, hbel, hsz⟩ := hrel
    have hks : k ≤ s.size := by have := HS.out; omega
    have HROW := Lib.hid hrow
    have HBel := Lib.hid hbel
    have HK1 := Lib.hid hk1
    have HK2 := Lib.hid hk2
    have hle : (k : Int) ≤ s.size := by omega
    clear hrow hbel hk1 hk2 HST HG1 hq1 hq2 hf0 hc0
    obtain ⟨wo, rfl⟩ : ∃ wo : World, wo = wr := ⟨_, rfl⟩
    obtain ⟨go, rfl⟩ : ∃ go : Nat, go = gk := ⟨_, rfl⟩
    go_wp2_with fail
    go_loopg [7] ((absP ps).length) (CloseRel w (absP ps) (onAt (absP ps) s.data.toList k) u5)
    case atStart => exact ⟨0, rfl, Nat.zero_le _, by omega, HROW.out, HBel.out, hsz⟩
    case round =>
      obtain ⟨i, rfl, hi1, hi2, hrow, hbel, hsz1⟩ := hrel
      have hi1 : i ≤ ps.length := by rw [← HA.out]; exact hi1
      have HROW1 := Lib.hid hrow
      have HBel1 := Lib.hid hbel
      have HI2 := Lib.hid hi2
      clear hrow hbel hi2
      have hlen : (closeTo (absP ps) (onAt (absP ps) s.data.toList k) i).length = ps.length + 1 := by rw [closeTo_length, onAt_length, HA.out]
      by_cases hend : i = ps.length
      · subst hend
        have HROW2 : Hid (BRow wr w.heap.size u5 (closeTo (absP ps) (onAt (absP ps) s.data.toList k) (absP ps).length)) := by rw [HA.out]; exact HROW1.out
        obtain ⟨g0, c0, hv, hg0, hg1, hc, _, _⟩ := BRow_open HROW1.out (by omega)
        rw [hlen] at hv hc
        have hcn := hc ps.length (by omega)
        have HLEN := Lib.hid hlen
        clear hc hlen
        subst hv
        by_cases hks2 : k = s.size
        · have HF : Hid (matchF (absP ps) s.data.toList = (closeTo (absP ps) (onAt (absP ps) s.data.toList k) ps.length).getD ps.length false) := by
            unfold matchF
            rw [← HS.out, ← hks2, HA.out]; rfl
          have hke : ((k : Int) == s.size) = true := by simp [hks2]
          clear hks2
          generalize (closeTo (absP ps) (onAt (absP ps) s.data.toList k) ps.length).getD ps.length false = bb at *
          go_wp2
          go_ret
          exact ⟨by rw [HF.out]; rfl, HBel1.out⟩
        · have hke : ((k : Int) == s.size) = false := by rw [beq_eq_false_iff_ne]; omega
          have hklt : k < s.size := by omega
          clear hks2 hcn
          have hbs := s[k].toNat_lt
          go_wp2_with (at_make; refine wpList_make_full _ rfl _ _ 168 rfl wr.heap.size 4 i4 (.bool false) 1 Tryz.underlying168 HI4.out.1 HI4.out.2.1 HI4.out.2.2.1 _ _ _ _ (ps.length + 1) rfl rfl (by omega) (by omega) (by rw [HI4.out.2.2.2]; omega) (by unfold maxLen; omega) (Nat.le_refl _) ?_; intro w1 hown1 hgrow1; rw [madeBools] at hown1; have HB1 : Hid (BRow w1 wr.heap.size (.slice (some ⟨wr.heap.size, 0, none⟩) (ps.length + 1) (ps.length + 1)) (List.replicate (ps.length + 1) false)) := (show BRow _ _ _ _ from (by unfold BRow; rw [List.length_replicate]; exact hown1)); have HG1 : Hid (Below wr.heap.size wr w1) := (Below.refl _ _).grown hgrow1 (Nat.le_refl _) (fun k hk => by cases hk); have hw1s : wr.heap.size ≤ w1.heap.size := hgrow1.size; clear hown1 hgrow1)
          obtain ⟨wi, rfl⟩ : ∃ wi : World, wi = wr := ⟨_, rfl⟩
          go_loopg [9] ((absP ps).length) (StepRel wi (absP ps) (closeTo (absP ps) (onAt (absP ps) s.data.toList k) (absP ps).length) s[k].toNat (.slice (some ⟨wi.heap.size, 0, none⟩) (ps.length + 1) (ps.length + 1)))
          case atStart => exact ⟨0, rfl, Nat.zero_le _, by omega, by rw [stepTo, HA.out]; exact HB1.out, HG1.out, hw1s⟩
          case round =>
            obtain ⟨i, rfl, hi1, hi2, hrow, hbel, hsz3⟩ := hrel
            have hi1 : i ≤ ps.length := by rw [← HA.out]; exact hi1
            have HROW3 := Lib.hid hrow
            have HBel3 := Lib.hid hbel
            have HI3 := Lib.hid hi2
            have hlen3 : (stepTo (absP ps) (closeTo (absP ps) (onAt (absP ps) s.data.toList k) (absP ps).length) s[k].toNat i).length = ps.length + 1 := by rw [stepTo_length, HA.out]
            have HLEN3 := Lib.hid hlen3
            clear hrow hbel hi2 hlen3
            by_cases hend : i = ps.length
            · subst hend
              have HF : Hid (stepTo (absP ps) (closeTo (absP ps) (onAt (absP ps) s.data.toList k) (absP ps).length) s[k].toNat ps.length = onAt (absP ps) s.data.toList (k + 1)) := by
                rw [onAt, HA.out, ← str_at rfl k hklt]; rfl
              go_wp2
              go_roundg (s.data.toList.length + 1 - (k + 1))
              case measure => have := HK2.out; have := HS.out; omega
              case rel =>
                refine ⟨k + 1, by go_num, by have := HS.out; omega, rfl, ?_, HBel1.out.trans (HBel3.out.mono hsz1), by omega⟩
                rw [← HF.out]
                exact ownsRow_base HROW3.out hsz1
            · have hlt : i < ps.length := by omega
              clear hend
              have HAT1 := Lib.hid (ElemsAt_below HAT.out ((HBel1.out.trans (HBel3.out.mono hsz1)).mono (Nat.le_refl _)))
              have HON2 := Lib.hid (BRow_below HROW2.out HBel3.out)
              have hSt : stepTo (absP ps) (closeTo (absP ps) (onAt (absP ps) s.data.toList k) (absP ps).length) s[k].toNat (i + 1) = if (closeTo (absP ps) (onAt (absP ps) s.data.toList k) (absP ps).length).getD i false && ps[i].1.fits s[k].toNat then (if ps[i].1.many then (stepTo (absP ps) (closeTo (absP ps) (onAt (absP ps) s.data.toList k) (absP ps).length) s[k].toNat i).set i true else (stepTo (absP ps) (closeTo (absP ps) (onAt (absP ps) s.data.toList k) (absP ps).length) s[k].toNat i).set (i + 1) true) else (stepTo (absP ps) (closeTo (absP ps) (onAt (absP ps) s.data.toList k) (absP ps).length) s[k].toNat i) := by
                rw [stepTo, absP_getD hlt]; rfl
              have HST3 := Lib.hid hSt
              obtain ⟨_, _, hc3, _, _⟩ := BRow_lit HON2.out (by rw [closeTo_length, onAt_length]; omega)
              have hci := hc3 i (by rw [closeTo_length, onAt_length, HA.out]; omega)
              clear hc3 hSt
              cases hon : (closeTo (absP ps) (onAt (absP ps) s.data.toList k) (absP ps).length).getD i false with
              | false =>
                rw [hon] at hci
                have HCL1 : Hid (stepTo (absP ps) (closeTo (absP ps) (onAt (absP ps) s.data.toList k) (absP ps).length) s[k].toNat (i + 1) = (stepTo (absP ps) (closeTo (absP ps) (onAt (absP ps) s.data.toList k) (absP ps).length) s[k].toNat i)) := by rw [HST3.out, hon]; rfl
                clear hon
                go_wp2_with fail
                go_region
                go_wp2
                go_roundg ((absP ps).length - (i + 1))
                case measure => have := HI3.out; have := HA.out; omega
                case rel => exact ⟨i + 1, by go_num, by rw [HA.out]; omega, rfl, by rw [HCL1.out]; exact HROW3.out, HBel3.out.drew, hsz3⟩
              | true =>
                rw [hon] at hci
                obtain ⟨ge, ce, hve, _, hge, hk0, hk1, hrowE⟩ := elem_at HAT1.out hlt
                injection hve with e1 e2 e3
                subst e1
                subst e3
                have HON := Lib.hid hon
                have HRE := Lib.hid hrowE
                clear hon hrowE
                go_wp2_with fail
                have q1 : (i : Int) < (ps.length : Int) + 1 := by omega
                have q2 : (i : Int) < (ps.length : Int) := by omega
                have q3 : (k : Int) < (s.size : Int) := by omega
                refine wp_region_still_tail 12 (by kernel_rfl) (by kernel_rfl) ?_
                simp only [List.take_succ_cons, List.take_zero, List.drop_succ_cons, List.drop_zero]
                repeat still_step
                refine wpStill_nil ?_
                change wpList _ _ _ _ _ wr.drew
                go_wp2_with fail
                refine (fits_any ps[i].1 ps[i].2 base s[k].toNat hbs _ HRE.out.drew (HIT.out _ (List.getElem_mem hlt))).mono ?_
                rintro e w2 ⟨rfl, hb⟩
                have hb : Below wr.heap.size wr w2 := (Below.refl _ _).drew.trans hb
                have HR2 := Lib.hid (BRow_below HROW3.out hb)
                have HB2 := Lib.hid (HBel3.out.trans (hb.mono hsz3))
                have HAT2 := Lib.hid (ElemsAt_below HAT1.out hb)
                have hsz4 : wi.heap.size ≤ w2.heap.size := Nat.le_trans hsz3 hb.size
                clear hb hk0 hk1 hci hge HRE
                cases hfi : ps[i].1.fits s[k].toNat with
                | false =>
                  have HCL1 : Hid (stepTo (absP ps) (closeTo (absP ps) (onAt (absP ps) s.data.toList k) (absP ps).length) s[k].toNat (i + 1) = (stepTo (absP ps) (closeTo (absP ps) (onAt (absP ps) s.data.toList k) (absP ps).length) s[k].toNat i)) := by rw [HST3.out, HON.out, hfi]; rfl
                  clear hfi
                  go_wp2
                  go_roundg ((absP ps).length - (i + 1))
                  case measure => have := HI3.out; have := HA.out; omega
                  case rel => exact ⟨i + 1, by go_num, by rw [HA.out]; omega, rfl, by rw [HCL1.out]; exact HR2.out, HB2.out, hsz4⟩
                | true =>
                  have HCL1 : Hid (stepTo (absP ps) (closeTo (absP ps) (onAt (absP ps) s.data.toList k) (absP ps).length) s[k].toNat (i + 1) = if ps[i].1.many then (stepTo (absP ps) (closeTo (absP ps) (onAt (absP ps) s.data.toList k) (absP ps).length) s[k].toNat i).set i true else (stepTo (absP ps) (closeTo (absP ps) (onAt (absP ps) s.data.toList k) (absP ps).length) s[k].toNat i).set (i + 1) true) := by rw [HST3.out, HON.out, hfi]; rfl
                  obtain ⟨ge2, ce2, hve2, _, hge2, hk0, hk1, _⟩ := elem_at HAT2.out hlt
                  injection hve2 with e1 e2 e3
                  injection e1 with e1
                  injection e1 with e1
                  subst e1
                  clear hfi e2 e3
                  go_wp2_with fail
                  refine (many_any ps[i].1 ps[i].2 _).mono ?_
                  rintro e w3 ⟨rfl, hb⟩
                  have HR3 := Lib.hid (BRow_below HR2.out hb)
                  have HB3 := Lib.hid (HB2.out.trans (hb.mono hsz4))
                  have hsz5 : wi.heap.size ≤ w3.heap.size := Nat.le_trans hsz4 hb.size
                  clear hb hk0 hk1 hge2
                  obtain ⟨hg2, hg3, hc2, hf2, hset2⟩ := BRow_lit HR3.out (by rw [HLEN3.out]; omega)
                  cases hm : ps[i].1.many with
                  | true =>
                    have HCL2 : Hid (stepTo (absP ps) (closeTo (absP ps) (onAt (absP ps) s.data.toList k) (absP ps).length) s[k].toNat (i + 1) = (stepTo (absP ps) (closeTo (absP ps) (onAt (absP ps) s.data.toList k) (absP ps).length) s[k].toNat i).set i true) := by rw [HCL1.out, hm]; rfl
                    have hc2 := hc2 i (by rw [HLEN3.out]; omega)
                    have hf2 := hf2 i
                    have HSET2 := Lib.hid (hset2 i true (by rw [HLEN3.out]; omega))
                    clear hm hset2
                    go_wp2
                    go_roundg ((absP ps).length - (i + 1))
                    case measure => have := HI3.out; have := HA.out; omega
                    case rel => exact ⟨i + 1, by go_num, by rw [HA.out]; omega, rfl, by rw [HCL2.out]; exact HSET2.out, HB3.out.setCell (by omega) _, by simpa using hsz5⟩
                  | false =>
                    have HCL2 : Hid (stepTo (absP ps) (closeTo (absP ps) (onAt (absP ps) s.data.toList k) (absP ps).length) s[k].toNat (i + 1) = (stepTo (absP ps) (closeTo (absP ps) (onAt (absP ps) s.data.toList k) (absP ps).length) s[k].toNat i).set (i + 1) true) := by rw [HCL1.out, hm]; rfl
                    have hc2 := hc2 (i + 1) (by rw [HLEN3.out]; omega)
                    have hf2 := hf2 (i + 1)
                    have HSET2 := Lib.hid (hset2 (i + 1) true (by rw [HLEN3.out]; omega))
                    clear hm hset2
                    go_wp2
                    go_roundg ((absP ps).length - (i + 1))
                    case measure => have := HI3.out; have := HA.out; omega
                    case rel => exact ⟨i + 1, by go_num, by rw [HA.out]; omega, rfl, by rw [HCL2.out]; exact HSET2.out, HB3.out.setCell (by omega) _, by simpa using hsz5⟩
      · have hlt : i < ps.length := by omega
        clear hend
        have HAT1 := Lib.hid (ElemsAt_below HAT.out (HBel1.out.mono (Nat.le_refl _)))
        obtain ⟨g0, c0, hv, hg0, hg1, hc, hfz, hset⟩ := BRow_open HROW1.out (by omega)
        rw [hlen] at hv hc hset
        have hci := hc i (by omega)
        have HFZ := Lib.hid hfz
        have HSET := Lib.hid hset
        have hCl : closeTo (absP ps) (onAt (absP ps) s.data.toList k) (i + 1) = if (closeTo (absP ps) (onAt (absP ps) s.data.toList k) i).getD i false && ps[i].1.many then (closeTo (absP ps) (onAt (absP ps) s.data.toList k) i).set (i + 1) true else closeTo (absP ps) (onAt (absP ps) s.data.toList k) i := by
          rw [closeTo, absP_getD hlt]; rfl
        have HCL := Lib.hid hCl
        have HLEN := Lib.hid hlen
        clear hc hfz hset hCl hlen
        subst hv
        cases hon : (closeTo (absP ps) (onAt (absP ps) s.data.toList k) i).getD i false with
        | false =>
          rw [hon] at hci
          have HCL1 : Hid (closeTo (absP ps) (onAt (absP ps) s.data.toList k) (i + 1) = closeTo (absP ps) (onAt (absP ps) s.data.toList k) i) := by rw [HCL.out, hon]; rfl
          clear hon
          go_wp2
          go_roundg ((absP ps).length - (i + 1))
          case measure => have := HI2.out; have := HA.out; omega
          case rel => exact ⟨i + 1, by go_num, by rw [HA.out]; omega, rfl, by rw [HCL1.out]; exact HROW1.out, HBel1.out, hsz1⟩
        | true =>
          rw [hon] at hci
          obtain ⟨ge, ce, hve, _, hge, hk0, hk1, _⟩ := elem_at HAT1.out hlt
          injection hve with e1 e2 e3
          subst e1
          subst e3
          have HON := Lib.hid hon
          clear hon
          go_wp2_with fail
          refine (many_any ps[i].1 ps[i].2 _).mono ?_
          rintro e w1 ⟨rfl, hb⟩
          have HR1 := Lib.hid (BRow_below HROW1.out hb)
          have HB1 := Lib.hid (HBel1.out.trans (hb.mono hsz1))
          have hsz2 : w.heap.size ≤ w1.heap.size := Nat.le_trans hsz1 hb.size
          clear hb
          cases hm : ps[i].1.many with
          | false =>
            have HCL1 : Hid (closeTo (absP ps) (onAt (absP ps) s.data.toList k) (i + 1) = (closeTo (absP ps) (onAt (absP ps) s.data.toList k) i)) := by rw [HCL.out, HON.out, hm]; rfl
            clear hm
            go_wp2
            go_roundg ((absP ps).length - (i + 1))
            case measure => have := HI2.out; have := HA.out; omega
            case rel => exact ⟨i + 1, by go_num, by rw [HA.out]; omega, rfl, by rw [HCL1.out]; exact HR1.out, HB1.out, hsz2⟩
          | true =>
            have HCL1 : Hid (closeTo (absP ps) (onAt (absP ps) s.data.toList k) (i + 1) = (closeTo (absP ps) (onAt (absP ps) s.data.toList k) i).set (i + 1) true) := by rw [HCL.out, HON.out, hm]; rfl
            obtain ⟨hg2, hg3, hc2, hf2, hset2⟩ := BRow_lit HR1.out (by rw [HLEN.out]; omega)
            have hc2 := hc2 (i + 1) (by rw [HLEN.out]; omega)
            have hf2 := hf2 (i + 1)
            have HSET2 := Lib.hid (hset2 (i + 1) true (by rw [HLEN.out]; omega))
            clear hm hset2
            go_wp2
            go_roundg ((absP ps).length - (i + 1))
            case measure => have := HI2.out; have := HA.out; omega
            case rel => exact ⟨i + 1, by go_num, by rw [HA.out]; omega, rfl, by rw [HCL1.out]; exact HSET2.out, HB1.out.setCell (by omega) _, by simpa using hsz2⟩
end Go.Proofs.YtghahghbahcpfaaGreatDoor.G6
/- The walks over the reference's Match, Any, Literal. -/
namespace Go.Proofs.YtghahghbahcpfaaGreatDoor.G6
open Go.RowKit
open Bs

theorem rclsF_len {f : Nat} : ∀ {l : List UInt8} {its its' : List (Nat × Nat)} {r : List UInt8}, rclsF f l its = some (its', r) → its'.length + r.length ≤ its.length + l.length := by
  induction f with
  | zero => intro l its its' r h; cases h
  | succ f ih =>
    intro l its its' r h
    by_cases hh : l.head? = some 93
    · rw [rclsF, if_pos hh] at h
      simp only [Option.some.injEq, Prod.mk.injEq] at h
      obtain ⟨rfl, rfl⟩ := h
      simp
    · rw [rclsF_go f l its hh] at h
      have hb := (charF_bd l).2.2
      by_cases h1 : (charF l).2 = 0
      · rw [if_pos h1] at h; cases h
      · rw [if_neg h1] at h
        by_cases h2 : (l.drop (charF l).2).head? = some 45
        · rw [if_pos h2] at h
          split at h
          · cases h
          · have := ih h; simp at this; omega
        · rw [if_neg h2] at h
          have := ih h; simp at this; omega

theorem relemF_items {F : Nat} {l : List UInt8} {E : RE} {n : Nat} (h : relemF F l = some (E, n)) : E.items.length ≤ l.length := by
  cases l with
  | nil => cases h
  | cons c r =>
    simp only [relemF] at h
    split at h
    · split at h <;> (simp at h; rw [← h.1]; simp)
    · split at h
      · simp at h; rw [← h.1]; simp
      · split at h
        · cases hr : rclsF F r [] with
          | none => rw [hr] at h; cases h
          | some x =>
            obtain ⟨its, rest⟩ := x
            rw [hr] at h
            simp only at h
            split at h
            · cases h
            · simp only [Option.some.injEq, Prod.mk.injEq] at h
              rw [← h.1]
              have := rclsF_len hr
              simp at this ⊢; omega
        · split at h
          · cases r with
            | nil => cases h
            | cons d r => simp at h; rw [← h.1]; simp
          · simp at h; rw [← h.1]; simp

theorem relemsF_items {F f : Nat} : ∀ {l : List UInt8} {L : List RE}, relemsF F f l = some L → ∀ e ∈ L, e.items.length ≤ l.length := by
  induction f with
  | zero => intro l L h; cases h
  | succ f ih =>
    intro l L h e he
    rw [relemsF] at h
    split at h
    · simp at h; subst h; cases he
    · cases hr : relemF F l with
      | none => rw [hr] at h; cases h
      | some x =>
        obtain ⟨E, n⟩ := x
        rw [hr] at h
        simp only at h
        cases hq : relemsF F f (l.drop n) with
        | none => rw [hq] at h; cases h
        | some L' =>
          rw [hq] at h
          simp at h
          subst h
          cases List.mem_cons.1 he with
          | inl h => subst h; exact relemF_items hr
          | inr h => have := ih hq e h; simp at this; omega

def rmatchF (p s : List UInt8) : Bool := if 4096 < p.length then false else match rels p with | none => false | some L => matchF (L.map RE.abs) s

set_option maxRecDepth 100000 in
set_option maxHeartbeats 400000 in
theorem rmatch_any (p s : ByteArray) (hp : p.size ≤ maxLen) (hs : s.size ≤ 1000000) (w : World) :
    Calls Tryz.prog 74 #[.string p, .string s] w fun e w' => e = .returned (.bool (rmatchF p.data.toList s.data.toList)) ∧ Below w.heap.size w w' := by
  go_enter Tryz.func74, Tryz.ntmps74
  go_wp2_with fail
  refine (elems_any p hp w).mono ?_
  rintro e w1 ⟨hb, hq⟩
  have HB := Lib.hid hb
  by_cases h : 4096 < p.data.toList.length
  · rw [if_pos h] at hq
    subst hq
    have HF : Hid (rmatchF p.data.toList s.data.toList = false) := by unfold rmatchF; rw [if_pos h]; rfl
    clear h hb
    go_wp2
    go_ret
    exact ⟨by rw [HF.out]; rfl, HB.out⟩
  · rw [if_neg h] at hq
    cases he : rels p.data.toList with
    | none =>
      rw [he] at hq
      subst hq
      have HF : Hid (rmatchF p.data.toList s.data.toList = false) := by unfold rmatchF; rw [if_neg h, he]; rfl
      clear h he hb
      go_wp2
      go_ret
      exact ⟨by rw [HF.out]; rfl, HB.out⟩
    | some L =>
      rw [he] at hq
      obtain ⟨v, ps, rfl, hat, hL, hlen⟩ := hq
      have HF : Hid (rmatchF p.data.toList s.data.toList = matchF (absP ps) s.data.toList) := by
        unfold rmatchF; rw [if_neg h, he, ← hL]; simp [absP, Function.comp_def, Hid]
      have hit : ∀ q ∈ ps, q.1.items.length ≤ 4096 := by
        intro q hq
        have := relemsF_items he q.1 (by rw [← hL]; exact List.mem_map_of_mem hq)
        omega
      have hpl : ps.length ≤ 4096 := by rw [← hL, List.length_map] at hlen; omega
      have HIT := Lib.hid hit
      have HAT := Lib.hid hat
      clear h he hb hL hlen hit hat
      go_wp2_with fail
      refine (matches_any ps v w.heap.size s hs hpl HIT.out w1 HAT.out).mono ?_
      rintro e w2 ⟨rfl, hb⟩
      have HB2 := Lib.hid (HB.out.trans (hb.mono HB.out.size))
      clear hb
      go_wp2
      go_ret
      exact ⟨by rw [HF.out]; rfl, HB2.out⟩

/-- a slice of strings that can be read -/
def StrsAt (w : World) (v : Value) (ss : List ByteArray) : Prop :=
  (∃ ao cap, v = .slice ao 0 cap ∧ ss = []) ∨ ∃ b off cap, v = .slice (some ⟨b, off, none⟩) ss.length cap ∧ b < w.heap.size ∧ ∀ i, i < ss.length → w.cell? ⟨b, off + i, none⟩ = some (.string (ss.getD i ByteArray.empty))

theorem StrsAt.below {w w1 : World} {v : Value} {ss : List ByteArray} (h : StrsAt w v ss) (hb : Below w.heap.size w w1) : StrsAt w1 v ss := by
  rcases h with h | ⟨b, off, cap, h1, h2, h3⟩
  · exact .inl h
  · exact .inr ⟨b, off, cap, h1, Nat.lt_of_lt_of_le h2 hb.size, fun i hi => by rw [hb.cell (p := ⟨b, off + i, none⟩) h2]; exact h3 i hi⟩

theorem StrsAt.form {w : World} {v : Value} {ss : List ByteArray} (h : StrsAt w v ss) : ∃ ao cap, v = .slice ao ss.length cap := by
  rcases h with ⟨ao, cap, rfl, rfl⟩ | ⟨b, off, cap, h1, _⟩
  · exact ⟨ao, cap, rfl⟩
  · exact ⟨_, _, h1⟩

theorem StrsAt.at_ {w : World} {ao : Option Addr} {n cap : Nat} {ss : List ByteArray} (h : StrsAt w (.slice ao n cap) ss) {i : Nat} (hi : i < ss.length) :
    ∃ b off, ao = some ⟨b, off, none⟩ ∧ w.cell? ⟨b, off + i, none⟩ = some (.string (ss.getD i ByteArray.empty)) := by
  rcases h with ⟨_, _, _, rfl⟩ | ⟨b, off, cap', h1, _, h3⟩
  · cases hi
  · injection h1 with e1 e2 e3
    exact ⟨b, off, e1, h3 i hi⟩

def ranyF (ss : List ByteArray) (s : List UInt8) : Bool :=
  ss.foldl (fun yes p => if p.data.toList.head? = some 33 then (if rmatchF (p.data.toList.drop 1) s then false else yes) else (if rmatchF p.data.toList s then true else yes)) false

def RAnyRel (w : World) (ss : List ByteArray) (s : List UInt8) (f : Nat) (t5 t6 : Value) (wr : World) : Prop :=
  ∃ i, t6 = .int .i64 (i : Nat) ∧ i ≤ ss.length ∧ f = ss.length - i ∧ t5 = .bool (ranyF (ss.take i) s) ∧ Below w.heap.size w wr

theorem ranyF_snoc {ss : List ByteArray} {s : List UInt8} {i : Nat} (hi : i < ss.length) :
    ranyF (ss.take (i + 1)) s = (if (ss.getD i ByteArray.empty).data.toList.head? = some 33 then (if rmatchF ((ss.getD i ByteArray.empty).data.toList.drop 1) s then false else ranyF (ss.take i) s) else (if rmatchF (ss.getD i ByteArray.empty).data.toList s then true else ranyF (ss.take i) s)) := by
  unfold ranyF
  rw [List.take_succ_eq_append_getElem hi, List.foldl_append]
  simp [List.getD, hi]

set_option maxRecDepth 100000 in
set_option maxHeartbeats 1600000 in
theorem rany_any (ss : List ByteArray) (v : Value) (s : ByteArray) (hs : s.size ≤ 1000000) (hn : ss.length ≤ 1000000) (hss : ∀ p ∈ ss, p.size ≤ 1000000) (w : World) (hat : StrsAt w v ss) :
    Calls Tryz.prog 53 #[v, .string s] w fun e w' => e = .returned (.bool (ranyF ss s.data.toList)) ∧ Below w.heap.size w w' := by
  obtain ⟨ao, cap, rfl⟩ := hat.form
  have HAT := Lib.hid hat
  have HSS := Lib.hid hss
  clear hat hss
  go_enter Tryz.func53, Tryz.ntmps53
  go_wp2_with fail
  go_loopg [5, 6] ss.length (RAnyRel w ss s.data.toList)
  case atStart => exact ⟨0, rfl, Nat.zero_le _, rfl, rfl, Below.refl _ _⟩
  case round =>
    obtain ⟨i, rfl, hi, hf, rfl, hbel⟩ := hrel
    have HBel := Lib.hid hbel
    have HF := Lib.hid hf
    clear hbel hf
    by_cases hend : i = ss.length
    · subst hend
      have HR : Hid (ranyF (ss.take ss.length) s.data.toList = ranyF ss s.data.toList) := by rw [List.take_length]; rfl
      go_wp2
      go_ret
      exact ⟨by rw [← HR.out]; rfl, HBel.out⟩
    · have hlt : i < ss.length := by omega
      obtain ⟨b, off, rfl, hc⟩ := (HAT.out.below HBel.out).at_ hlt
      have HSN := Lib.hid (ranyF_snoc (s := s.data.toList) hlt)
      have hpsz : (ss.getD i ByteArray.empty).size ≤ 1000000 := HSS.out _ (by simp [List.getD, hlt])
      generalize ranyF (ss.take i) s.data.toList = yes at *
      generalize ss.getD i ByteArray.empty = p at *
      have hpm : p.size ≤ maxLen := by unfold maxLen; omega
      clear hend
      by_cases h33 : lastF p.data.toList 0 = 33
      · have t1 : ((lastF p.data.toList 0 : Int) == 33) = true := by simp [h33]
        obtain ⟨hp0, _⟩ := lastF_93 h33 (by omega)
        have hh : p.data.toList.head? = some 33 := by
          have := (head_lastF (s := p) (k := 0) 33 (by decide)).2 h33
          simpa using this
        have hsn := HSN.out
        rw [if_pos hh] at hsn
        have HSN1 := Lib.hid hsn
        clear hsn hh h33 HSN
        go_wp2_with (go_at_call 73; refine (last_any p _ (by omega) hpm _).mono ?_; rintro e w' ⟨rfl, rfl⟩)
        refine (rmatch_any _ s (by simp; unfold maxLen; omega) hs _).mono ?_
        rintro e w1 ⟨rfl, hb⟩
        rw [Lib.extract_to_end]
        have HB1 := Lib.hid (HBel.out.trans (hb.mono HBel.out.size))
        clear hb
        cases hm : rmatchF (p.data.toList.drop 1) s.data.toList with
        | true =>
          have HR : Hid (ranyF (ss.take (i + 1)) s.data.toList = false) := by rw [HSN1.out, hm]; rfl
          clear hm
          go_wp2
          go_roundg (ss.length - (i + 1))
          case measure => have := HF.out; omega
          case rel => exact ⟨i + 1, by go_num, by omega, rfl, by rw [HR.out], HB1.out⟩
        | false =>
          have HR : Hid (ranyF (ss.take (i + 1)) s.data.toList = yes) := by rw [HSN1.out, hm]; rfl
          clear hm
          go_wp2
          go_roundg (ss.length - (i + 1))
          case measure => have := HF.out; omega
          case rel => exact ⟨i + 1, by go_num, by omega, rfl, by rw [HR.out], HB1.out⟩
      · have t1 : ((lastF p.data.toList 0 : Int) == 33) = false := by rw [beq_eq_false_iff_ne]; omega
        have hh : ¬ p.data.toList.head? = some 33 := by
          intro h
          exact h33 ((head_lastF (s := p) (k := 0) 33 (by decide)).1 (by simpa using h))
        have hsn := HSN.out
        rw [if_neg hh] at hsn
        have HSN1 := Lib.hid hsn
        clear hsn hh h33 HSN
        go_wp2_with (go_at_call 73; refine (last_any p _ (by omega) hpm _).mono ?_; rintro e w' ⟨rfl, rfl⟩)
        refine (rmatch_any _ s hpm hs _).mono ?_
        rintro e w1 ⟨rfl, hb⟩
        have HB1 := Lib.hid (HBel.out.trans (hb.mono HBel.out.size))
        clear hb
        cases hm : rmatchF p.data.toList s.data.toList with
        | true =>
          have HR : Hid (ranyF (ss.take (i + 1)) s.data.toList = true) := by rw [HSN1.out, hm]; rfl
          clear hm
          go_wp2
          go_roundg (ss.length - (i + 1))
          case measure => have := HF.out; omega
          case rel => exact ⟨i + 1, by go_num, by omega, rfl, by rw [HR.out], HB1.out⟩
        | false =>
          have HR : Hid (ranyF (ss.take (i + 1)) s.data.toList = yes) := by rw [HSN1.out, hm]; rfl
          clear hm
          go_wp2
          go_roundg (ss.length - (i + 1))
          case measure => have := HF.out; omega
          case rel => exact ⟨i + 1, by go_num, by omega, rfl, by rw [HR.out], HB1.out⟩
end Go.Proofs.YtghahghbahcpfaaGreatDoor.G6
