/- The law GraphReaches: its walk. -/
import Derived.Test.YtfegmmafcopbpaaGreatDoorGl2
import Derived.Test.YtfegmmafcopbpaaGreatDoorRg6
namespace Go.Proofs.YtfegmmafcopbpaaGreatDoor
open Go.RowKit

set_option maxRecDepth 100000 in
set_option maxHeartbeats 3200000 in
theorem reaches_law (nv dv : Value) (ns : List Nd) (b : ByteArray) (ds : List ByteArray) (m : Int) (w : World) (hN : NdAt w nv ns) (hD : StrsAt w dv ds) (hnl : ∀ x ∈ ns, x.needs.length ≤ 9223372036854775807) (hm : w.cell? ⟨0, 0, none⟩ = some (.int .i64 m)) (hml : 0 < w.heap.size) :
    Calls Tryz.prog 5 #[nv, .string b, dv] w (LawPost w) := by
  have MX : ∀ W, Below w.heap.size w W → W.cell? ⟨0, 0, none⟩ = some (.int .i64 m) ∧ 0 < W.heap.size := fun W hW => ⟨(hW.cell (p := ⟨0, 0, none⟩) hml).trans hm, Nat.lt_of_lt_of_le hml hW.size⟩
  have SM := Lib.hid (small_any nv ns 60 (by decide) w hN)
  have AW := fun W (hW : Below w.heap.size w W) => Lib.hid (awake_any m W (MX W hW).1 (MX W hW).2)
  have GA : ns.length ≤ 60 → ∀ W, Below w.heap.size w W → Hid (Calls Tryz.prog 21 #[nv, .string b] W (StrPost (aboveF (grO ns) b.data.toList) W)) := fun h W hW => above_any nv ns b m (by omega) W (hN.below hW) (MX W hW).1 (MX W hW).2
  have GB : ns.length ≤ 60 → ∀ W, Below w.heap.size w W → Hid (Calls Tryz.prog 23 #[nv, .string b] W (StrPost (belowF (grO ns) b.data.toList) W)) := fun h W hW => below_any nv ns b m (by omega) W (hN.below hW) (MX W hW).1 (MX W hW).2
  have GR : ns.length ≤ 60 → ds.length ≤ 100 → ∀ W, Below w.heap.size w W → Hid (Calls Tryz.prog 25 #[nv, dv] W (StrPost (readyF (grO ns) (dts ds)) W)) := fun h h2 W hW => ready_any nv dv ns ds m (by omega) (by omega) W (hN.below hW) (hD.below hW) (MX W hW).1 (MX W hW).2
  have RA : ns.length ≤ 60 → ∀ W, Below w.heap.size w W → Hid (Calls Tryz.prog 22 #[nv, .string b] W (StrPost (aboveF (grO ns) b.data.toList) W)) := fun h W hW => rAbove_any nv ns (by omega) hnl b W (hN.below hW)
  have RB : ns.length ≤ 60 → ∀ W, Below w.heap.size w W → Hid (Calls Tryz.prog 24 #[nv, .string b] W (StrPost (belowF (grO ns) b.data.toList) W)) := fun h W hW => rBelow_any nv ns (by omega) hnl b W (hN.below hW)
  have RR : ns.length ≤ 60 → ds.length ≤ 100 → ∀ W, Below w.heap.size w W → Hid (Calls Tryz.prog 26 #[nv, dv] W (StrPost (readyF (grO ns) (dts ds)) W)) := fun h h2 W hW => rReady_any nv dv ns ds (by omega) (by omega) hnl W (hN.below hW) (hD.below hW)
  have HL := Lib.hid (grO_len ns)
  obtain ⟨ao, cap, rfl⟩ := hN.sl.form
  obtain ⟨dao, dcap, rfl⟩ := hD.form
  clear hN hD hnl hm hml MX
  go_enter Tryz.func5, Tryz.ntmps5
  have B0 := Lib.hid (Below.refl w.heap.size w)
  by_cases hs : smallF ns 60 = true
  · have hl := small_len hs
    have GA := GA hl
    have GB := GB hl
    have RA := RA hl
    have RB := RB hl
    have LA := Lib.hid (above_len (grO ns) b.data.toList (by rw [HL.out]; omega))
    have LB := Lib.hid (below_len (grO ns) b.data.toList (by rw [HL.out]; omega))
    have LR := Lib.hid (ready_len (grO ns) (dts ds) (by rw [HL.out]; omega))
    rw [hs] at SM
    by_cases hd : ds.length ≤ 100
    · have GR := GR hl hd
      have RR := RR hl hd
      have hdi : ¬ (100 : Int) < (ds.length : Int) := by omega
      clear hs hd hl
      generalize aboveF (grO ns) b.data.toList = LLA at *
      generalize belowF (grO ns) b.data.toList = LLB at *
      generalize readyF (grO ns) (dts ds) = LLR at *
      as_aux_lemma =>
      go_wp2_with fail
      refine SM.out.mono ?_
      rintro e w1 ⟨rfl, rfl⟩
      go_wp2_with fail
      refine (GA _ B0.out).out.mono ?_
      rintro e w2 ⟨r2, xs2, rfl, hs2, hd2, hb⟩
      have B2 := Lib.hid (B0.out.trans (hb.mono B0.out.size))
      have S2 := Lib.hid hs2
      have D2 := Lib.hid hd2
      clear hb hs2 hd2 GA
      go_wp2_with fail
      refine (RA _ B2.out).out.mono ?_
      rintro e w3 ⟨r3, xs3, rfl, hs3, hd3, hb⟩
      have B3 := Lib.hid (B2.out.trans (hb.mono B2.out.size))
      have SC := Lib.hid (same_call r2 r3 xs2 xs3 _ D2.out hd3 LA.out w3 (S2.out.below hb) hs3)
      clear hb hs3 hd3 S2 D2 LA RA
      go_wp2_with fail
      refine SC.out.mono ?_
      rintro e w4 ⟨rfl, hb⟩
      have B4 := Lib.hid (B3.out.trans (hb.mono B3.out.size))
      clear hb SC
      as_aux_lemma =>
      go_wp2_with fail
      refine (GB _ B4.out).out.mono ?_
      rintro e w5 ⟨r2, xs2, rfl, hs2, hd2, hb⟩
      have B5 := Lib.hid (B4.out.trans (hb.mono B4.out.size))
      have S2 := Lib.hid hs2
      have D2 := Lib.hid hd2
      clear hb hs2 hd2 GB
      go_wp2_with fail
      refine (RB _ B5.out).out.mono ?_
      rintro e w6 ⟨r3, xs3, rfl, hs3, hd3, hb⟩
      have B6 := Lib.hid (B5.out.trans (hb.mono B5.out.size))
      have SC := Lib.hid (same_call r2 r3 xs2 xs3 _ D2.out hd3 LB.out w6 (S2.out.below hb) hs3)
      clear hb hs3 hd3 S2 D2 LB RB
      go_wp2_with fail
      refine SC.out.mono ?_
      rintro e w7 ⟨rfl, hb⟩
      have B7 := Lib.hid (B6.out.trans (hb.mono B6.out.size))
      clear hb SC
      as_aux_lemma =>
      go_wp2_with fail
      refine (GR _ B7.out).out.mono ?_
      rintro e w8 ⟨r2, xs2, rfl, hs2, hd2, hb⟩
      have B8 := Lib.hid (B7.out.trans (hb.mono B7.out.size))
      have S2 := Lib.hid hs2
      have D2 := Lib.hid hd2
      clear hb hs2 hd2 GR
      go_wp2_with fail
      refine (RR _ B8.out).out.mono ?_
      rintro e w9 ⟨r3, xs3, rfl, hs3, hd3, hb⟩
      have B9 := Lib.hid (B8.out.trans (hb.mono B8.out.size))
      have SC := Lib.hid (same_call r2 r3 xs2 xs3 _ D2.out hd3 LR.out w9 (S2.out.below hb) hs3)
      clear hb hs3 hd3 S2 D2 LR RR
      go_wp2_with fail
      refine SC.out.mono ?_
      rintro e w10 ⟨rfl, hb⟩
      have B10 := Lib.hid (B9.out.trans (hb.mono B9.out.size))
      clear hb SC
      go_wp2_with fail
      refine (AW _ B10.out).out.mono ?_
      rintro e w11 ⟨rfl, hb⟩
      have B11 := Lib.hid (B10.out.trans (hb.mono B10.out.size))
      clear hb
      go_wp2_with fail
      go_ret
      exact ⟨rfl, B11.out⟩
    · have hdi : (100 : Int) < (ds.length : Int) := by omega
      clear hs hd hl GA GB GR RA RB RR LA LB LR
      as_aux_lemma =>
      go_wp2_with fail
      refine SM.out.mono ?_
      rintro e w1 ⟨rfl, rfl⟩
      go_wp2_with fail
      refine (AW _ B0.out).out.mono ?_
      rintro e w2 ⟨rfl, hb⟩
      have HB := Lib.hid hb
      clear hb
      go_wp2_with fail
      go_ret
      exact ⟨rfl, HB.out⟩
  · have hs' : smallF ns 60 = false := by simpa using hs
    rw [hs'] at SM
    clear hs hs' GA GB GR RA RB RR
    as_aux_lemma =>
    go_wp2_with fail
    refine SM.out.mono ?_
    rintro e w1 ⟨rfl, rfl⟩
    go_wp2_with fail
    refine (AW _ B0.out).out.mono ?_
    rintro e w2 ⟨rfl, hb⟩
    have HB := Lib.hid hb
    clear hb
    go_wp2_with fail
    go_ret
    exact ⟨rfl, HB.out⟩
end Go.Proofs.YtfegmmafcopbpaaGreatDoor
