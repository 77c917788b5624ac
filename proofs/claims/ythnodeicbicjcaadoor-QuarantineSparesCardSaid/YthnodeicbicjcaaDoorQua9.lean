/- The walks over both Update. -/
import Derived.Test.YthnodeicbicjcaaDoorQua8
namespace Go.Proofs.YthnodeicbicjcaaDoor
open Go.RowKit

def stepU (now len : Int) (out : List Qu) (n : ByteArray) : List Qu := if out.any (actF n now) = true then out else (addF out n now len).1
def upTo (qs : List Qu) (names : List ByteArray) (now len : Int) : Nat → List Qu
  | 0 => qs
  | k + 1 => stepU now len (upTo qs names now len k) (names.getD k ByteArray.empty)

theorem addF_len (qs : List Qu) (name : ByteArray) (now len : Int) : (addF qs name now len).1.length ≤ qs.length + 1 := by
  unfold addF
  split
  · simp
  · split
    · simp
    · split
      · simp only
        split <;> simp
      · simp
theorem upTo_len (qs : List Qu) (names : List ByteArray) (now len : Int) : ∀ k, (upTo qs names now len k).length ≤ qs.length + k
  | 0 => Nat.le_refl _
  | k + 1 => by
    have := upTo_len qs names now len k
    have h2 := addF_len (upTo qs names now len k) (names.getD k ByteArray.empty) now len
    rw [upTo, stepU]
    split <;> omega

theorem StrRow.at {w : World} {base : Nat} {v : Value} {ss : List ByteArray} (h : StrRow w base v ss) : StrsAt w v ss := StrsAt.of_row h

def UpPost (x : List Qu) (w : World) (e : Ending) (w' : World) : Prop := ∃ v, e = .returned v ∧ QuAt w' v x ∧ Below w.heap.size w w'
def UpRel (w1 : World) (qs : List Qu) (names : List ByteArray) (now len : Int) (f : Nat) (t9 t17 : Value) (wr : World) : Prop :=
  ∃ k : Nat, t17 = .int .i64 (k : Nat) ∧ k ≤ names.length ∧ f = names.length - k ∧ QuAt wr t9 (upTo qs names now len k) ∧ Below w1.heap.size w1 wr

set_option maxRecDepth 100000 in
set_option maxHeartbeats 1600000 in
theorem update_any (v u : Value) (qs : List Qu) (es : List Ev) (hn : qs.length ≤ 2000) (hm : es.length ≤ 1000) (now len m : Int) (w : World) (h : QuAt w v qs) (h2 : EvAt w u es) (hc : w.cell? ⟨0, 0, none⟩ = some (.int .i64 m)) (hg : 0 < w.heap.size) :
    Calls Tryd.prog 21 #[v, u, .int .i64 now, .int .i64 len] w (UpPost (upTo qs (flakF es es.length) now len (flakF es es.length).length) w) := by
  have H := Lib.hid h
  have H2 := Lib.hid h2
  have HM := Lib.hid hc
  clear h h2 hc
  go_enter Tryd.func21, Tryd.ntmps21
  go_wp2_with fail
  refine (clone_any v qs (by omega) w H.out).mono ?_
  rintro e w1 ⟨cv, rfl, hrow, hb⟩
  have HQ1 := Lib.hid (QuRow.at hrow)
  have HB1 := Lib.hid hb
  clear hrow hb
  go_wp2_with fail
  refine (flaky_any u es (by omega) w1 (SlAt.below H2.out HB1.out)).mono ?_
  rintro e w2 ⟨nv, rfl, hrow, hb⟩
  obtain ⟨ao, cap, rfl⟩ := ownsRow_form hrow
  have HN := Lib.hid (StrRow.at hrow)
  have HQ2 := Lib.hid (SlAt.below HQ1.out hb)
  have HB2 := Lib.hid (HB1.out.trans (hb.mono HB1.out.size))
  have hnl := flakF_len es es.length
  clear hrow hb
  generalize flakF es es.length = ns at *
  go_wp2_with fail
  go_loopg [9, 17] ns.length (UpRel w2 qs ns now len)
  case atStart => exact ⟨0, rfl, Nat.zero_le _, rfl, HQ2.out, Below.refl _ _⟩
  case round =>
    obtain ⟨k, rfl, hk, rfl, hq, hbel⟩ := hrel
    have HQ := Lib.hid hq
    have HBW := Lib.hid (HB2.out.trans (hbel.mono HB2.out.size))
    have HB := Lib.hid hbel
    have hul := upTo_len qs ns now len k
    clear hq hbel
    by_cases hlt : k < ns.length
    · obtain ⟨b, off, rfl, hbl, hc⟩ := (HN.out.below HB.out).at_ hlt
      have hii : (k : Int) < (ns.length : Int) := by omega
      have HUP : Hid (upTo qs ns now len (k + 1) = stepU now len (upTo qs ns now len k) (ns.getD k ByteArray.empty)) := rfl
      generalize ns.getD k ByteArray.empty = n at *
      generalize upTo qs ns now len k = out at *
      go_wp2_with fail
      refine (active_any _ out (by omega) n now _ HQ.out).mono ?_
      rintro e w3 ⟨rfl, hb⟩
      have HQ3 := Lib.hid (SlAt.below HQ.out hb)
      have HB3 := Lib.hid (HB.out.trans (hb.mono HB.out.size))
      have HBW3 := Lib.hid (HBW.out.trans (hb.mono HBW.out.size))
      clear hb
      cases ho : out.any (actF n now) with
      | true =>
        have HU : Hid (upTo qs ns now len (k + 1) = out) := by unfold Hid; rw [HUP.out, stepU, if_pos ho]
        clear ho
        go_wp2_with fail
        go_roundg (ns.length - (k + 1))
        case measure => omega
        case rel => exact ⟨k + 1, by go_num, by omega, rfl, by rw [HU.out]; exact HQ3.out, HB3.out⟩
      | false =>
        have HU : Hid (upTo qs ns now len (k + 1) = (addF out n now len).1) := by unfold Hid; rw [HUP.out, stepU, if_neg (by rw [ho]; decide)]
        clear ho
        go_wp2_with fail
        refine (add_any _ out (by omega) n now len m w3 HQ3.out ((HBW3.out.cell (p := ⟨0, 0, none⟩) hg).trans HM.out) (Nat.lt_of_lt_of_le hg HBW3.out.size)).mono ?_
        rintro e w4 ⟨v', rfl, hq, hb⟩
        have HQ4 := Lib.hid hq
        have HB4 := Lib.hid (HB3.out.trans (hb.mono HB3.out.size))
        clear hq hb
        go_wp2_with fail
        go_roundg (ns.length - (k + 1))
        case measure => omega
        case rel => exact ⟨k + 1, by go_num, by omega, rfl, by rw [HU.out]; exact HQ4.out, HB4.out⟩
    · have hk' : k = ns.length := by omega
      subst hk'
      go_wp2_with fail
      go_ret
      exact ⟨_, rfl, HQ.out, HBW.out⟩


set_option maxRecDepth 100000 in
set_option maxHeartbeats 1600000 in
theorem rupdate_any (v u : Value) (qs : List Qu) (es : List Ev) (hn : qs.length ≤ 2000) (hm : es.length ≤ 1000) (now len : Int) (w : World) (h : QuAt w v qs) (h2 : EvAt w u es) :
    Calls Tryd.prog 22 #[v, u, .int .i64 now, .int .i64 len] w (UpPost (upTo qs (flakF es es.length) now len (flakF es es.length).length) w) := by
  have H := Lib.hid h
  have H2 := Lib.hid h2
  clear h h2
  go_enter Tryd.func22, Tryd.ntmps22
  go_wp2_with fail
  refine (rflaky_any u es (by omega) w H2.out).mono ?_
  rintro e w2 ⟨nv, rfl, hrow, hb⟩
  obtain ⟨ao, cap, rfl⟩ := ownsRow_form hrow
  have HN := Lib.hid (StrRow.at hrow)
  have HQ2 := Lib.hid (SlAt.below H.out hb)
  have HB2 := Lib.hid hb
  have hnl := flakF_len es es.length
  clear hrow hb
  generalize flakF es es.length = ns at *
  go_wp2_with fail
  go_loopg [10, 11] ns.length (UpRel w2 qs ns now len)
  case atStart => exact ⟨0, rfl, Nat.zero_le _, rfl, HQ2.out, Below.refl _ _⟩
  case round =>
    obtain ⟨k, rfl, hk, rfl, hq, hbel⟩ := hrel
    have HQ := Lib.hid hq
    have HBW := Lib.hid (HB2.out.trans (hbel.mono HB2.out.size))
    have HB := Lib.hid hbel
    have hul := upTo_len qs ns now len k
    clear hq hbel
    by_cases hlt : k < ns.length
    · obtain ⟨b, off, rfl, hbl, hc⟩ := (HN.out.below HB.out).at_ hlt
      have hii : (k : Int) < (ns.length : Int) := by omega
      have HUP : Hid (upTo qs ns now len (k + 1) = stepU now len (upTo qs ns now len k) (ns.getD k ByteArray.empty)) := rfl
      generalize ns.getD k ByteArray.empty = n at *
      generalize upTo qs ns now len k = out at *
      go_wp2_with fail
      refine (ractive_any _ out (by omega) n now _ HQ.out).mono ?_
      rintro e w3 ⟨rfl, hb⟩
      have HQ3 := Lib.hid (SlAt.below HQ.out hb)
      have hc3 := (hb.cell (p := ⟨b, off + k, none⟩) hbl).trans hc
      have HB3 := Lib.hid (HB.out.trans (hb.mono HB.out.size))
      have HBW3 := Lib.hid (HBW.out.trans (hb.mono HBW.out.size))
      clear hb
      cases ho : out.any (actF n now) with
      | true =>
        have HU : Hid (upTo qs ns now len (k + 1) = out) := by unfold Hid; rw [HUP.out, stepU, if_pos ho]
        clear ho
        go_wp2_with fail
        go_roundg (ns.length - (k + 1))
        case measure => omega
        case rel => exact ⟨k + 1, by go_num, by omega, rfl, by rw [HU.out]; exact HQ3.out, HB3.out⟩
      | false =>
        have HU : Hid (upTo qs ns now len (k + 1) = (addF out n now len).1) := by unfold Hid; rw [HUP.out, stepU, if_neg (by rw [ho]; decide)]
        clear ho
        go_wp2_with fail
        refine (radd_any _ out (by omega) n now len w3 HQ3.out).mono ?_
        rintro e w4 ⟨v', rfl, hq, hb⟩
        have HQ4 := Lib.hid hq
        have HB4 := Lib.hid (HB3.out.trans (hb.mono HB3.out.size))
        clear hq hb
        go_wp2_with fail
        go_roundg (ns.length - (k + 1))
        case measure => omega
        case rel => exact ⟨k + 1, by go_num, by omega, rfl, by rw [HU.out]; exact HQ4.out, HB4.out⟩
    · have hk' : k = ns.length := by omega
      subst hk'
      go_wp2_with fail
      go_ret
      exact ⟨_, rfl, HQ.out, HBW.out⟩

end Go.Proofs.YthnodeicbicjcaaDoor
