/- The law GraphCycles: its walk. -/
import Derived.Test.YtfegmmafcopbpaaGreatDoorGl2
import Derived.Test.YtfegmmafcopbpaaGreatDoorRg11
namespace Go.Proofs.YtfegmmafcopbpaaGreatDoor
open Go.RowKit

theorem same_callC (r s : Value) (xs ys : List ByteArray) (L : List Bs) (hx : dts xs = L) (hy : dts ys = L) (hl : L.length ≤ 1000000) (W : World) (h1 : StrsAt W r xs) (h2 : StrsAt W s ys) : Calls Tryz.prog 18 #[r, s] W fun e w' => e = .returned (.bool true) ∧ Below W.heap.size W w' := by
  have hxl : xs.length ≤ 1000000 := by rw [← dts_len, hx]; exact hl
  refine (rsame_any r s xs ys hxl W h1 h2).mono ?_
  rintro e w' ⟨rfl, hb⟩
  exact ⟨by rw [hx, hy, decide_eq_true rfl], hb⟩

set_option maxRecDepth 100000 in
set_option maxHeartbeats 3200000 in
theorem cycles_law (nv : Value) (ns : List Nd) (m : Int) (w : World) (hN : NdAt w nv ns) (hnl : ∀ x ∈ ns, x.needs.length ≤ 9223372036854775807) (hm : w.cell? ⟨0, 0, none⟩ = some (.int .i64 m)) (hml : 0 < w.heap.size) :
    Calls Tryz.prog 4 #[nv] w (LawPost w) := by
  have MX : ∀ W, Below w.heap.size w W → W.cell? ⟨0, 0, none⟩ = some (.int .i64 m) ∧ 0 < W.heap.size := fun W hW => ⟨(hW.cell (p := ⟨0, 0, none⟩) hml).trans hm, Nat.lt_of_lt_of_le hml hW.size⟩
  have SM := Lib.hid (small_any nv ns 60 (by decide) w hN)
  have AW := fun W (hW : Below w.heap.size w W) => Lib.hid (awake_any m W (MX W hW).1 (MX W hW).2)
  have GA : ns.length ≤ 60 → ∀ W, Below w.heap.size w W → Hid (Calls Tryz.prog 19 #[nv] W (StrPost (cycleF (grO ns)) W)) := fun h W hW => cycle_any nv ns m (by omega) W (hN.below hW) (MX W hW).1 (MX W hW).2
  have RA : ns.length ≤ 60 → ∀ W, Below w.heap.size w W → Hid (Calls Tryz.prog 20 #[nv] W (StrPost (cycleF (grO ns)) W)) := fun h W hW => rcycle_any nv ns (by omega) hnl W (hN.below hW)
  have HL := Lib.hid (grO_len ns)
  obtain ⟨ao, cap, rfl⟩ := hN.sl.form
  clear hN hnl hm hml MX
  go_enter Tryz.func4, Tryz.ntmps4
  have B0 := Lib.hid (Below.refl w.heap.size w)
  by_cases hs : smallF ns 60 = true
  · have hl := small_len hs
    have GA := GA hl
    have RA := RA hl
    have LA := Lib.hid (cycleF_len (grO ns) (by rw [HL.out]; omega))
    rw [hs] at SM
    clear hs hl
    generalize cycleF (grO ns) = LLA at *
    as_aux_lemma =>
    go_wp2_with fail
    refine SM.out.mono ?_
    rintro e w1 ⟨rfl, rfl⟩
    go_wp2_with fail
    refine (GA _ B0.out).out.mono ?_
    rintro e w2 ⟨r2, xs2, rfl, hs2, hd2, hb⟩
    have B2 := Lib.hid (B0.out.trans (hb.mono B0.out.size))
    have S2 := Lib.hid hs2
    have D2 := Lib.hid hd2
    clear hb hs2 hd2 GA
    go_wp2_with fail
    refine (RA _ B2.out).out.mono ?_
    rintro e w3 ⟨r3, xs3, rfl, hs3, hd3, hb⟩
    have B3 := Lib.hid (B2.out.trans (hb.mono B2.out.size))
    have SC := Lib.hid (same_callC r2 r3 xs2 xs3 _ D2.out hd3 LA.out w3 (S2.out.below hb) hs3)
    clear hb hs3 hd3 S2 D2 LA RA
    go_wp2_with fail
    refine SC.out.mono ?_
    rintro e w4 ⟨rfl, hb⟩
    have B4 := Lib.hid (B3.out.trans (hb.mono B3.out.size))
    clear hb SC
    go_wp2_with fail
    refine (AW _ B4.out).out.mono ?_
    rintro e w11 ⟨rfl, hb⟩
    have B11 := Lib.hid (B4.out.trans (hb.mono B4.out.size))
    clear hb
    go_wp2_with fail
    go_ret
    exact ⟨rfl, B11.out⟩
  · have hs' : smallF ns 60 = false := by simpa using hs
    rw [hs'] at SM
    clear hs hs' GA RA
    as_aux_lemma =>
    go_wp2_with fail
    refine SM.out.mono ?_
    rintro e w1 ⟨rfl, rfl⟩
    go_wp2_with fail
    refine (AW _ B0.out).out.mono ?_
    rintro e w2 ⟨rfl, hb⟩
    have HB := Lib.hid hb
    clear hb
    go_wp2_with fail
    go_ret
    exact ⟨rfl, HB.out⟩
end Go.Proofs.YtfegmmafcopbpaaGreatDoor
