/- The law GraphDual: its walk. -/
import Derived.Test.YtfegmmafcopbpaaGreatDoorGl2
import Derived.Test.YtfegmmafcopbpaaGreatDoorRg6
namespace Go.Proofs.YtfegmmafcopbpaaGreatDoor
open Go.RowKit

theorem tmod_nat (a b : Nat) : Int.tmod (a : Int) (b : Int) = ((a % b : Nat) : Int) := by
  rw [Int.tmod_eq_emod_of_nonneg (by omega)]
  rfl
theorem ids_at {ns : List Nd} {k : Nat} (hk : k < ns.length) : (ns.getD k default).id.data.toList ∈ idsG (grO ns) := List.mem_of_getElem? (grO_ids ns hk)
set_option maxRecDepth 100000 in
set_option maxHeartbeats 3200000 in
theorem dual_law (nv : Value) (ns : List Nd) (i k : Nat) (hi : i ≤ 255) (hk : k ≤ 255) (m : Int) (w : World) (hN : NdAt w nv ns) (hm : w.cell? ⟨0, 0, none⟩ = some (.int .i64 m)) (hml : 0 < w.heap.size) :
    Calls Tryz.prog 8 #[nv, .int .u8 (i : Nat), .int .u8 (k : Nat)] w (LawPost w) := by
  have MX : ∀ W, Below w.heap.size w W → W.cell? ⟨0, 0, none⟩ = some (.int .i64 m) ∧ 0 < W.heap.size := fun W hW => ⟨(hW.cell (p := ⟨0, 0, none⟩) hml).trans hm, Nat.lt_of_lt_of_le hml hW.size⟩
  have SM := Lib.hid (small_any nv ns 200 (by decide) w hN)
  have AW := fun W (hW : Below w.heap.size w W) => Lib.hid (awake_any m W (MX W hW).1 (MX W hW).2)
  have AB : ns.length ≤ 200 → ∀ s W, Below w.heap.size w W → Hid (Calls Tryz.prog 21 #[nv, .string s] W (StrPost (aboveF (grO ns) s.data.toList) W)) := fun h s W hW => above_any nv ns s m (by omega) W (hN.below hW) (MX W hW).1 (MX W hW).2
  have BE : ns.length ≤ 200 → ∀ s W, Below w.heap.size w W → Hid (Calls Tryz.prog 23 #[nv, .string s] W (StrPost (belowF (grO ns) s.data.toList) W)) := fun h s W hW => below_any nv ns s m (by omega) W (hN.below hW) (MX W hW).1 (MX W hW).2
  have VA : ns.length ≤ 200 → ∀ W, Below w.heap.size w W → Hid (Calls Tryz.prog 16 #[nv] W fun e w' => e = .returned (.int .i64 (validF (grO ns) : Nat)) ∧ Below W.heap.size W w') := fun h W hW => valid_any nv ns m (by omega) W (hN.below hW) (MX W hW).1 (MX W hW).2
  have HN := Lib.hid hN
  have HL := Lib.hid (grO_len ns)
  obtain ⟨ao, cap, rfl⟩ := hN.sl.form
  clear hN hm hml MX
  go_enter Tryz.func8, Tryz.ntmps8
  have B0 := Lib.hid (Below.refl w.heap.size w)
  by_cases hs : smallF ns 200 = true
  · have hl := small_len hs
    have AB := AB hl
    have BE := BE hl
    have VA := VA hl
    rw [hs] at SM
    clear hs
    by_cases h0 : ns.length = 0
    · have h0i : ((ns.length : Int) == 0) = true := by rw [h0]; rfl
      clear AB BE VA h0
      as_aux_lemma =>
      go_wp2_with fail
      refine SM.out.mono ?_
      rintro e w1 ⟨rfl, rfl⟩
      go_wp2_with fail
      refine (AW _ B0.out).out.mono ?_
      rintro e w2 ⟨rfl, hb⟩
      have HB := Lib.hid hb
      clear hb
      go_wp2_with fail
      go_ret
      exact ⟨rfl, HB.out⟩
    · have h0i : ((ns.length : Int) == 0) = false := by rw [beq_eq_false_iff_ne]; omega
      have hpos : 0 < ns.length := by omega
      have hi2 : i % ns.length < ns.length := Nat.mod_lt _ hpos
      have hk2 : k % ns.length < ns.length := Nat.mod_lt _ hpos
      obtain ⟨b, off, hao, hbl, hc1, _, _⟩ := HN.out.at2 hi2
      obtain ⟨b', off', hao', hbl', hc2, _, _⟩ := HN.out.at2 hk2
      subst hao
      injection hao' with hao'
      injection hao' with e1 e2
      subst e1 e2
      have HIA := Lib.hid (ids_at hi2)
      have HIB := Lib.hid (ids_at hk2)
      have TI := Lib.hid (tmod_nat i ns.length)
      have TK := Lib.hid (tmod_nat k ns.length)
      generalize i % ns.length = p at *
      generalize k % ns.length = q at *
      generalize (ns.getD p default).id = x at *
      generalize (ns.getD q default).id = y at *
      go_wp2_with fail
      refine SM.out.mono ?_
      rintro e w1 ⟨rfl, rfl⟩
      go_upto_region 3 with fail
      have ti := TI.out
      have tk := TK.out
      have hpi : ((p : Nat) : Int) < (ns.length : Int) := by omega
      have hqi : ((q : Nat) : Int) < (ns.length : Int) := by omega
      have hp0 : (0 : Int) ≤ ((p : Nat) : Int) := by omega
      have hq0 : (0 : Int) ≤ ((q : Nat) : Int) := by omega
      go_quiet (fail)
      rename_i nq
      have BQ := Lib.hid (below_drewN w1 nq)
      generalize w1.drewN nq = w2 at *
      have LA := Lib.hid (fun b => above_len (grO ns) b (by rw [HL.out]; omega))
      have LB := Lib.hid (fun b => below_len (grO ns) b (by rw [HL.out]; omega))
      have HSELF : Hid (x.data.toList ∈ aboveF (grO ns) x.data.toList → validF (grO ns) = 14) := self_cycle
      have HD := Lib.hid (dual_same (grO ns) x.data.toList y.data.toList)
      have HH : ∀ v ts s l W, dts ts = l → l.length ≤ 1000000 → StrsAt W v ts → Hid (Calls Tryz.prog 32 #[v, .string s] W fun e w' => e = .returned (.bool (decide (s.data.toList ∈ l))) ∧ w' = W) := fun v ts s l W hd hll hs => by
        subst hd
        exact has_any v ts s (by rw [← dts_len]; omega) W hs
      obtain ⟨d, hd0⟩ : ∃ d, decide (y.data.toList ∈ aboveF (grO ns) x.data.toList) = d := ⟨_, rfl⟩
      have HD0 := Lib.hid hd0
      have hdd : (d != d) = false := by simp
      clear ti tk hpi hqi hp0 hq0 hc1 hc2 SM TI TK hd0
      go_wp2_with fail
      refine (AB x w2 BQ.out).out.mono ?_
      rintro e w3 ⟨r3, s3, rfl, hs3, hd3, hb⟩
      have B3 := Lib.hid (BQ.out.trans (hb.mono BQ.out.size))
      have H3 := HH r3 s3 y _ w3 hd3 (LA.out _) hs3
      rw [HD0.out] at H3
      clear hb hs3 hd3
      go_wp2_with fail
      refine H3.out.mono ?_
      rintro e w4 ⟨rfl, rfl⟩
      clear H3
      as_aux_lemma =>
      go_wp2_with fail
      refine (BE y w4 B3.out).out.mono ?_
      rintro e w5 ⟨r3, s3, rfl, hs3, hd3, hb⟩
      have B5 := Lib.hid (B3.out.trans (hb.mono B3.out.size))
      have H3 := HH r3 s3 x _ w5 hd3 (LB.out _) hs3
      rw [← HD.out, HD0.out] at H3
      clear hb hs3 hd3
      go_wp2_with fail
      refine H3.out.mono ?_
      rintro e w6 ⟨rfl, rfl⟩
      clear H3
      as_aux_lemma =>
      go_wp2_with fail
      refine (AB x w6 B5.out).out.mono ?_
      rintro e w7 ⟨r3, s3, rfl, hs3, hd3, hb⟩
      have B7 := Lib.hid (B5.out.trans (hb.mono B5.out.size))
      have H3 := HH r3 s3 x _ w7 hd3 (LA.out _) hs3
      clear hb hs3 hd3
      by_cases hself : x.data.toList ∈ aboveF (grO ns) x.data.toList
      · have hv := HSELF.out hself
        rw [hv] at VA
        rw [decide_eq_true hself] at H3
        clear hself hv
        as_aux_lemma =>
        go_wp2_with fail
        refine H3.out.mono ?_
        rintro e w8 ⟨rfl, rfl⟩
        go_wp2_with fail
        refine (VA w8 B7.out).out.mono ?_
        rintro e w9 ⟨rfl, hb⟩
        have B9 := Lib.hid (B7.out.trans (hb.mono B7.out.size))
        clear hb
        go_wp2_with fail
        refine (AW _ B9.out).out.mono ?_
        rintro e w10 ⟨rfl, hb⟩
        have B10 := Lib.hid (B9.out.trans (hb.mono B9.out.size))
        clear hb
        go_wp2_with fail
        go_ret
        exact ⟨rfl, B10.out⟩
      · rw [decide_eq_false hself] at H3
        clear hself VA
        as_aux_lemma =>
        go_wp2_with fail
        refine H3.out.mono ?_
        rintro e w8 ⟨rfl, rfl⟩
        go_wp2_with fail
        refine (AW _ B7.out).out.mono ?_
        rintro e w10 ⟨rfl, hb⟩
        have B10 := Lib.hid (B7.out.trans (hb.mono B7.out.size))
        clear hb
        go_wp2_with fail
        go_ret
        exact ⟨rfl, B10.out⟩
  · have hs' : smallF ns 200 = false := by simpa using hs
    rw [hs'] at SM
    clear hs hs' AB BE VA
    as_aux_lemma =>
    go_wp2_with fail
    refine SM.out.mono ?_
    rintro e w1 ⟨rfl, rfl⟩
    go_wp2_with fail
    refine (AW _ B0.out).out.mono ?_
    rintro e w2 ⟨rfl, hb⟩
    have HB := Lib.hid hb
    clear hb
    go_wp2_with fail
    go_ret
    exact ⟨rfl, HB.out⟩
end Go.Proofs.YtfegmmafcopbpaaGreatDoor
