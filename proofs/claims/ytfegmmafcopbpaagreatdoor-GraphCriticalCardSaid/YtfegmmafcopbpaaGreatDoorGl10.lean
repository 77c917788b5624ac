/- The law GraphCritical: its walk. -/
import Derived.Test.YtfegmmafcopbpaaGreatDoorGl2
import Derived.Test.YtfegmmafcopbpaaGreatDoorRg14
namespace Go.Proofs.YtfegmmafcopbpaaGreatDoor
open Go.RowKit

theorem same_callC (r s : Value) (xs ys : List ByteArray) (L : List Bs) (hx : dts xs = L) (hy : dts ys = L) (hl : L.length ≤ 1000000) (W : World) (h1 : StrsAt W r xs) (h2 : StrsAt W s ys) : Calls Tryz.prog 18 #[r, s] W fun e w' => e = .returned (.bool true) ∧ Below W.heap.size W w' := by
  have hxl : xs.length ≤ 1000000 := by rw [← dts_len, hx]; exact hl
  refine (rsame_any r s xs ys hxl W h1 h2).mono ?_
  rintro e w' ⟨rfl, hb⟩
  exact ⟨by rw [hx, hy, decide_eq_true rfl], hb⟩
theorem pathQ_lenR (G : Gr) (B C : Nat → Nat) : ∀ (f i : Nat), (pathQ G B C f i).length ≤ f
  | 0, _ => by rw [pathQ]; exact Nat.le_refl _
  | f + 1, i => by
    rw [pathQ]
    split
    · simp
    · split
      · simp
      · have := pathQ_lenR G B C f
        simp [this]
theorem criticalF_len (G : Gr) (cs : List Int) (hl : G.length ≤ 1000000) : (criticalF G cs).2.length ≤ 1000000 := by
  unfold criticalF
  split
  · exact Nat.zero_le _
  · unfold critF
    simp only
    split
    · exact Nat.zero_le _
    · exact Nat.le_trans (pathQ_lenR _ _ _ _ _) hl

set_option maxRecDepth 100000 in
set_option maxHeartbeats 3200000 in
theorem critical_law (nv cv : Value) (ns : List Nd) (cs : List Int) (m : Int) (w : World) (hN : NdAt w nv ns) (hC : ZsAt w cv cs) (hnl : ∀ x ∈ ns, x.needs.length ≤ 9223372036854775807) (hm : w.cell? ⟨0, 0, none⟩ = some (.int .i64 m)) (hml : 0 < w.heap.size) :
    Calls Tryz.prog 6 #[nv, cv] w (LawPost w) := by
  have MX : ∀ W, Below w.heap.size w W → W.cell? ⟨0, 0, none⟩ = some (.int .i64 m) ∧ 0 < W.heap.size := fun W hW => ⟨(hW.cell (p := ⟨0, 0, none⟩) hml).trans hm, Nat.lt_of_lt_of_le hml hW.size⟩
  have SM := Lib.hid (small_any nv ns 60 (by decide) w hN)
  have AW := fun W (hW : Below w.heap.size w W) => Lib.hid (awake_any m W (MX W hW).1 (MX W hW).2)
  have GA : ns.length ≤ 60 → ∀ W, Below w.heap.size w W → Hid (Calls Tryz.prog 27 #[nv, cv] W (CritPost (grO ns) cs W)) := fun h W hW => critical_any nv cv ns cs m (by omega) (fun e => by omega) W (hN.below hW) (SlAt.below hC hW) (MX W hW).1 (MX W hW).2
  have RA : ns.length ≤ 60 → ∀ W, Below w.heap.size w W → Hid (Calls Tryz.prog 28 #[nv, cv] W (RCritPost (criticalF (grO ns) cs) W)) := fun h W hW => rcrit_any nv cv ns cs (by omega) hnl W (hN.below hW) (SlAt.below hC hW)
  have HL := Lib.hid (grO_len ns)
  obtain ⟨ao, cap, rfl⟩ := hN.sl.form
  obtain ⟨cao, ccap, rfl⟩ := SlAt.form hC
  clear hN hC hnl hm hml MX
  go_enter Tryz.func6, Tryz.ntmps6
  have B0 := Lib.hid (Below.refl w.heap.size w)
  by_cases hs : smallF ns 60 = true
  · have hl := small_len hs
    have GA := GA hl
    have RA := RA hl
    have LA := Lib.hid (criticalF_len (grO ns) cs (by rw [HL.out]; omega))
    unfold CritPost at GA
    unfold RCritPost at RA
    rw [hs] at SM
    clear hs hl
    generalize criticalF (grO ns) cs = LLA at *
    obtain ⟨cst, ids⟩ := LLA
    as_aux_lemma =>
    go_wp2_with fail
    refine SM.out.mono ?_
    rintro e w1 ⟨rfl, rfl⟩
    go_wp2_with fail
    refine (GA _ B0.out).out.mono ?_
    rintro e w2 ⟨r2, xs2, rfl, hs2, hd2, hb⟩
    have B2 := Lib.hid (B0.out.trans (hb.mono B0.out.size))
    have S2 := Lib.hid hs2
    have D2 := Lib.hid hd2
    clear hb hs2 hd2 GA
    go_wp2_with fail
    refine (RA _ B2.out).out.mono ?_
    rintro e w3 ⟨r3, xs3, rfl, hs3, hd3, hb⟩
    have B3 := Lib.hid (B2.out.trans (hb.mono B2.out.size))
    have SC := Lib.hid (same_callC r2 r3 xs2 xs3 _ D2.out hd3 LA.out w3 (S2.out.below hb) hs3)
    clear hb hs3 hd3 S2 D2 LA RA
    go_wp2_with fail
    refine SC.out.mono ?_
    rintro e w4 ⟨rfl, hb⟩
    have B4 := Lib.hid (B3.out.trans (hb.mono B3.out.size))
    clear hb SC
    go_wp2_with fail
    refine (AW _ B4.out).out.mono ?_
    rintro e w11 ⟨rfl, hb⟩
    have B11 := Lib.hid (B4.out.trans (hb.mono B4.out.size))
    clear hb
    go_wp2_with fail
    go_ret
    exact ⟨rfl, B11.out⟩
  · have hs' : smallF ns 60 = false := by simpa using hs
    rw [hs'] at SM
    clear hs hs' GA RA
    as_aux_lemma =>
    go_wp2_with fail
    refine SM.out.mono ?_
    rintro e w1 ⟨rfl, rfl⟩
    go_wp2_with fail
    refine (AW _ B0.out).out.mono ?_
    rintro e w2 ⟨rfl, hb⟩
    have HB := Lib.hid hb
    clear hb
    go_wp2_with fail
    go_ret
    exact ⟨rfl, HB.out⟩
end Go.Proofs.YtfegmmafcopbpaaGreatDoor
