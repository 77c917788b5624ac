/- The law GraphOrders: its walk. -/
import Derived.Test.YtfegmmafcopbpaaGreatDoorGl2
namespace Go.Proofs.YtfegmmafcopbpaaGreatDoor
open Go.RowKit

theorem order_bounds {ns os : List Nd} (h0 : validF (grO ns) = 0 → grO os = orderF (grO ns)) (h1 : validF (grO ns) ≠ 0 → os = []) : os.length ≤ 1000000 ∧ ∀ x ∈ os, x.needs.length ≤ 1000000 := by
  by_cases hv : validF (grO ns) = 0
  · have h := h0 hv
    have hf : formedF (grO ns) = 0 := by
      unfold validF at hv
      by_cases h2 : formedF (grO ns) = 0
      · exact h2
      · rw [if_pos (by simpa using h2)] at hv; exact hv
    have hS := formed_sound hf
    have hl := hS.len
    refine ⟨?_, fun x hx => ?_⟩
    · have h2 := congrArg List.length h
      rw [grO_len] at h2
      have h3 := (ordG_listed (grO ns)).len
      unfold orderF at h2
      rw [List.length_map] at h2
      omega
    · have h2 : (x.id.data.toList, x.needs.map (·.data.toList)) ∈ grO os := List.mem_map.2 ⟨x, hx, rfl⟩
      rw [h] at h2
      obtain ⟨i, _, e⟩ := List.mem_map.1 h2
      injection e with _ e
      have h3 := nodup_le (idsG (grO ns)) (needA (grO ns) i) (needA_nodup hS i) (fun q hq => hS.need hq)
      rw [e, ids_len] at h3
      simp at h3
      omega
  · rw [h1 hv]
    exact ⟨by simp, fun x hx => by cases hx⟩
theorem order_alike {ns os os2 : List Nd} (h0 : validF (grO ns) = 0 → grO os = orderF (grO ns)) (h1 : validF (grO ns) ≠ 0 → os = []) (k0 : validF (grO ns) = 0 → grO os2 = orderF (grO ns)) (k1 : validF (grO ns) ≠ 0 → os2 = []) : grO os = grO os2 := by
  by_cases hv : validF (grO ns) = 0
  · rw [h0 hv, k0 hv]
  · rw [h1 hv, k1 hv]

set_option maxRecDepth 100000 in
set_option maxHeartbeats 3200000 in
theorem orders_law (nv : Value) (ns : List Nd) (m : Int) (w : World) (hN : NdAt w nv ns) (hnl : ∀ x ∈ ns, x.needs.length ≤ 9223372036854775807) (hm : w.cell? ⟨0, 0, none⟩ = some (.int .i64 m)) (hml : 0 < w.heap.size) :
    Calls Tryz.prog 3 #[nv] w (LawPost w) := by
  have MX : ∀ W, Below w.heap.size w W → W.cell? ⟨0, 0, none⟩ = some (.int .i64 m) ∧ 0 < W.heap.size := fun W hW => ⟨(hW.cell (p := ⟨0, 0, none⟩) hml).trans hm, Nat.lt_of_lt_of_le hml hW.size⟩
  have SM := Lib.hid (small_any nv ns 1200 (by decide) w hN)
  have AW := fun W (hW : Below w.heap.size w W) => Lib.hid (awake_any m W (MX W hW).1 (MX W hW).2)
  have GO : ns.length ≤ 1200 → ∀ W, Below w.heap.size w W → Hid (Calls Tryz.prog 13 #[nv] W (OrderPost (grO ns) W)) := fun h W hW => gorder_any nv ns m (by omega) W (hN.below hW) (MX W hW).1 (MX W hW).2
  have RO : ns.length ≤ 1200 → ∀ W, Below w.heap.size w W → Hid (Calls Tryz.prog 14 #[nv] W (ROrderPost ns W)) := fun h W hW => rorderf_any nv ns (by omega) hnl W (hN.below hW)
  have VA : ns.length ≤ 1200 → ∀ W, Below w.heap.size w W → Hid (Calls Tryz.prog 16 #[nv] W fun e w' => e = .returned (.int .i64 (validF (grO ns) : Nat)) ∧ Below W.heap.size W w') := fun h W hW => valid_any nv ns m (by omega) W (hN.below hW) (MX W hW).1 (MX W hW).2
  have RV : ns.length ≤ 1200 → ∀ W, Below w.heap.size w W → Hid (Calls Tryz.prog 17 #[nv] W fun e w' => e = .returned (.int .i64 (validF (grO ns) : Nat)) ∧ Below W.heap.size W w') := fun h W hW => rvalid_any nv ns (by omega) hnl W (hN.below hW)
  obtain ⟨ao, cap, rfl⟩ := hN.sl.form
  clear hN hnl hm hml MX
  go_enter Tryz.func3, Tryz.ntmps3
  have B0 := Lib.hid (Below.refl w.heap.size w)
  by_cases hs : smallF ns 1200 = true
  · have hl := small_len hs
    have GO := GO hl
    have RO := RO hl
    have VA := VA hl
    have RV := RV hl
    rw [hs] at SM
    clear hs
    by_cases hin : 60 < ns.length ∧ ns.length ≤ 1024
    · have h1 : (60 : Int) < (ns.length : Int) := by omega
      have h2 : (ns.length : Int) ≤ 1024 := by omega
      clear GO RO VA RV hin
      as_aux_lemma =>
      go_wp2_with fail
      refine SM.out.mono ?_
      rintro e w1 ⟨rfl, rfl⟩
      go_wp2_with fail
      refine (AW _ B0.out).out.mono ?_
      rintro e w2 ⟨rfl, hb⟩
      have HB := Lib.hid hb
      clear hb
      go_wp2_with fail
      go_ret
      exact ⟨rfl, HB.out⟩
    · have main : (¬ (60 : Int) < (ns.length : Int)) ∨ ((60 : Int) < (ns.length : Int) ∧ ¬ (ns.length : Int) ≤ 1024) := by omega
      clear hin hl
      rcases main with h1 | ⟨h1, h2⟩
      all_goals
        as_aux_lemma =>
        go_wp2_with fail
        refine SM.out.mono ?_
        rintro e w1 ⟨rfl, rfl⟩
        go_wp2_with fail
        refine (GO _ B0.out).out.mono ?_
        rintro e w2 ⟨r, os, rfl, hos, h0s, h1s, hb⟩
        have B2 := Lib.hid (B0.out.trans (hb.mono B0.out.size))
        have HOS := Lib.hid hos
        have H0 := Lib.hid h0s
        have H1 := Lib.hid h1s
        clear hb hos h0s h1s GO
        go_wp2_with fail
        refine (RO _ B2.out).out.mono ?_
        rintro e w3 ⟨r2, os2, rfl, hos2, k0s, k1s, hb⟩
        have B3 := Lib.hid (B2.out.trans (hb.mono B2.out.size))
        have hbd := order_bounds H0.out H1.out
        have SN := samenodes_any r r2 os os2 hbd.1 hbd.2 w3 (HOS.out.below (hb.mono (Nat.le_refl _))) hos2
        rw [decide_eq_true (order_alike H0.out H1.out k0s k1s)] at SN
        have SN2 := Lib.hid SN
        clear hb hos2 k0s k1s H0 H1 HOS hbd SN RO
        generalize validF (grO ns) = v at *
        have hvv : (((v : Nat) : Int) == ((v : Nat) : Int)) = true := by simp
        go_wp2_with fail
        refine SN2.out.mono ?_
        rintro e w4 ⟨rfl, hb⟩
        have B4 := Lib.hid (B3.out.trans (hb.mono B3.out.size))
        clear hb SN2
        go_wp2_with fail
        refine (VA _ B4.out).out.mono ?_
        rintro e w5 ⟨rfl, hb⟩
        have B5 := Lib.hid (B4.out.trans (hb.mono B4.out.size))
        clear hb VA
        go_wp2_with fail
        refine (RV _ B5.out).out.mono ?_
        rintro e w6 ⟨rfl, hb⟩
        have B6 := Lib.hid (B5.out.trans (hb.mono B5.out.size))
        clear hb RV
        go_wp2_with fail
        refine (AW _ B6.out).out.mono ?_
        rintro e w7 ⟨rfl, hb⟩
        have B7 := Lib.hid (B6.out.trans (hb.mono B6.out.size))
        clear hb
        go_wp2_with fail
        go_ret
        exact ⟨rfl, B7.out⟩
  · have hs' : smallF ns 1200 = false := by simpa using hs
    rw [hs'] at SM
    clear hs hs' GO RO VA RV
    as_aux_lemma =>
    go_wp2_with fail
    refine SM.out.mono ?_
    rintro e w1 ⟨rfl, rfl⟩
    go_wp2_with fail
    refine (AW _ B0.out).out.mono ?_
    rintro e w2 ⟨rfl, hb⟩
    have HB := Lib.hid hb
    clear hb
    go_wp2_with fail
    go_ret
    exact ⟨rfl, HB.out⟩
end Go.Proofs.YtfegmmafcopbpaaGreatDoor
