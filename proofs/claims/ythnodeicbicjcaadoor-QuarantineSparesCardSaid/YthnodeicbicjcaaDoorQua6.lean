/- The walk over the reference's Add. -/
import Derived.Test.YthnodeicbicjcaaDoorIdent5
import Derived.Test.YthnodeicbicjcaaDoorQua5
namespace Go.Proofs.YthnodeicbicjcaaDoor
open Go.RowKit

/-- what append copies into an empty list -/
theorem flat_len (qs : List Qu) : (qs.flatMap Qu.cells).length = qs.length * 3 := by
  rw [List.length_flatMap]
  have : (qs.map fun q => q.cells.length) = List.replicate qs.length 3 := by rw [List.eq_replicate_iff]; simp [Qu.cells]
  rw [this]; simp
theorem flat_one (qs : List Qu) : (qs.flatMap Qu.cells).all (·.oneCell') = true := by
  rw [List.all_eq_true]
  intro u hu
  obtain ⟨q, _, hq⟩ := List.mem_flatMap.1 hu
  simp only [Qu.cells, List.mem_cons, List.not_mem_nil, or_false] at hq
  rcases hq with rfl | rfl | rfl <;> rfl

theorem QuRow.set21 {w : World} {base g n cap : Nat} {qs : List Qu} (_ : QuRow w base (.slice (some ⟨g, 0, none⟩) n cap) qs) {k : Nat} (hk : k < qs.length) (a b : Int) :
    ∀ w2, QuRow w2 base (.slice (some ⟨g, 0, none⟩) n cap) (qs.set k ⟨qs[k].name, qs[k].since, b⟩) →
    QuRow (w2.setCell ⟨g, k * 3 + 1, none⟩ (.int .i64 a)) base (.slice (some ⟨g, 0, none⟩) n cap) (qs.set k ⟨qs[k].name, a, b⟩) ∧
      ∃ o, Wrote g o w2 (w2.setCell ⟨g, k * 3 + 1, none⟩ (.int .i64 a)) := by
  intro w2 r1
  obtain ⟨_, _, _, _, _, _, hs2⟩ := r1.lit (k := k) (by simpa using hk)
  obtain ⟨r2, o2, w2⟩ := hs2 1 (.int .i64 a) ⟨qs[k].name, a, b⟩ (by decide) (by simp [Qu.cells])
  rw [List.set_set] at r2
  exact ⟨r2, o2, w2⟩

set_option maxRecDepth 100000 in
set_option maxHeartbeats 1600000 in
theorem radd_any (v : Value) (qs : List Qu) (hn : qs.length ≤ 4000) (name : ByteArray) (now len : Int) (w : World) (h : QuAt w v qs) :
    Calls Tryd.prog 12 #[v, .string name, .int .i64 now, .int .i64 len] w (AddPost (addF qs name now len) w) := by
  obtain ⟨ao, cap, rfl⟩ := h.form
  have H := Lib.hid h
  clear h
  go_enter Tryd.func12, Tryd.ntmps12
  go_wp2_with fail
  refine (ispath_any name w).mono ?_
  rintro e w1 ⟨rfl, hb⟩
  have HB1 := Lib.hid hb
  have HA1 := Lib.hid (SlAt.below H.out hb)
  clear hb
  generalize hpn : partsF name.data.toList = pn
  have HPN := Lib.hid hpn
  clear hpn
  by_cases hp0 : pn = 0
  · subst hp0
    have HADD : Hid (addF qs name now len = if ¬ (0 ≤ now ∧ now ≤ maxT ∧ 1 ≤ len ∧ len ≤ maxT) then (qs, 2) else match firstF (fun q => sameN q.name name) qs 0 with
      | .ofNat k => (match qs[k]? with | some q => qs.set k (updF now (endF now len) q) | none => qs, 0)
      | .negSucc _ => (qs ++ [⟨name, now, endF now len⟩], 0)) := by unfold Hid addF; rw [if_neg (by rw [HPN.out]; simp)]; rfl
    rw [show decide ((0 : Nat) = 0) = true from rfl]
    by_cases hr : 0 ≤ now ∧ now ≤ maxT ∧ 1 ≤ len ∧ len ≤ maxT
    · have HADD : Hid (addF qs name now len = match firstF (fun q => sameN q.name name) qs 0 with
        | .ofNat k => (match qs[k]? with | some q => qs.set k (updF now (endF now len) q) | none => qs, 0)
        | .negSucc _ => (qs ++ [⟨name, now, endF now len⟩], 0)) := by unfold Hid; rw [HADD.out, if_neg (fun h => h hr)]
      obtain ⟨hn0, hn1, hl0, hl1⟩ := hr
      unfold maxT at hn1 hl1
      have t1 : decide (now < 0) = false := by simp; omega
      have t2 : decide (1125899906842624 < now) = false := by simp; omega
      have t3 : decide (len < 1) = false := by simp; omega
      have t4 : decide (1125899906842624 < len) = false := by simp; omega
      have HE : Hid (min (now + len) 1125899906842624 = endF now len) := rfl
      go_upto_region 6 with fail
      generalize min (now + len) 1125899906842624 = E at *
      go_cut [11] (fun s11 wx => QuRow wx w1.heap.size s11 qs ∧ Below w1.heap.size w1 wx)
      case first =>
        obtain ⟨i48, hi48⟩ := Tryd.info48'
        have HI := Lib.hid hi48
        clear hi48
        cases ao with
        | none =>
          have h0 : qs = [] := by
            rcases HA1.out with ⟨_, _, _, e⟩ | ⟨b, off, c, e, _⟩
            · exact e
            · injection e with e1; cases e1
          subst h0
          as_aux_lemma =>
          go_wp2_with fail
          go_meet
          case rel => exact ⟨World.ownsRow_made w1 #[] 0 (Nat.le_refl _) (Nat.zero_le _) rfl, (Below.refl _ _).alloc (Nat.le_refl _) _⟩
        | some ad =>
          obtain ⟨b, off, sp⟩ := ad
          have hfl := SlAt.flat (f := Qu.cells) Qu.cells_len HA1.out
          have HFL := Lib.hid (show ∀ (j : Nat) (u : Value), (qs.flatMap Qu.cells)[j]? = some u → (w1.alloc (.cells #[] 48)).cell? ((⟨b, off, sp⟩ : Addr).add j) = some u from fun j u hj => Lib.cell?_alloc_some _ (hfl j u hj))
          clear hfl
          as_aux_lemma =>
          go_wp2_with (at_builtin; refine wpList_append2 rfl _ _ 22 rfl w1.heap.size 48 i48 (.agg #[.string ByteArray.empty, .int .i64 0, .int .i64 0]) 3 32 Tryd.underlying22 HI.out rfl (by decide) _ 0 [] rfl (World.ownsRow_made w1 #[] 0 (Nat.le_refl _) (Nat.zero_le _) rfl) ⟨b, off, sp⟩ qs.length cap (qs.flatMap Qu.cells) rfl (flat_len qs) HFL.out (flat_one qs) (by unfold maxLen; omega) (by omega) (by simp) ?_)
          intro v' w3 hown hgrow hwh
          obtain ⟨ao', cap', rfl⟩ := ownsRow_form hown
          have HOWN := Lib.hid hown
          have HBG := Lib.hid (((Below.refl w1.heap.size w1).alloc (Nat.le_refl _) (.cells #[] 48)).grown hgrow (by simp) (by intro k hk; simp [Value.ownBlock] at hk; omega))
          clear hown hgrow hwh
          go_wp2_with fail
          go_meet
          case rel => exact ⟨by simpa [QuRow] using HOWN.out, HBG.out⟩
      case rest =>
        obtain ⟨hrow, hbc⟩ := hcut
        have HR := Lib.hid hrow
        have HBC := Lib.hid (HB1.out.trans (hbc.mono HB1.out.size))
        have HAC := Lib.hid (SlAt.below HA1.out hbc)
        have hz1 := hbc.size
        obtain ⟨ro, rcap, rfl⟩ := ownsRow_form hrow
        clear hrow hbc
        go_wp2_with fail
        refine (rindex_any _ qs (by omega) name wc HAC.out).mono ?_
        rintro e w2 ⟨rfl, hb⟩
        have HR2 := Lib.hid (show QuRow w2 w1.heap.size (.slice ro qs.length rcap) qs from ownsRow_below HR.out hb)
        have HB2 := Lib.hid (HBC.out.trans (hb.mono HBC.out.size))
        have HA2 := Lib.hid (SlAt.below HAC.out hb)
        have hz2 := hb.size
        have hzw := HB1.out.size
        clear hb
        rcases firstF_cases (fun q => sameN q.name name) qs 0 with ⟨hf, _⟩ | ⟨k, hk, hf, hpk⟩
        · have HADD : Hid (addF qs name now len = (qs ++ [⟨name, now, E⟩], 0)) := by unfold Hid; rw [HADD.out, hf, HE.out]; rfl
          rw [hf]
          clear hf
          obtain ⟨i48, hi48⟩ := Tryd.info48'
          have HI := Lib.hid hi48
          clear hi48
          have h4 : ¬ (4096 : Int) ≤ (qs.length : Int) := by omega
          as_aux_lemma =>
          go_wp2_with (at_builtin; refine wpList_append2 rfl _ _ 22 rfl w.heap.size 48 i48 (.agg #[.string ByteArray.empty, .int .i64 0, .int .i64 0]) 3 32 Tryd.underlying22 HI.out rfl (by decide) _ _ _ rfl ((ownsRow_base HR2.out (by omega)).alloc _) ⟨w2.heap.size, 0, none⟩ 1 1 (Qu.cells ⟨name, now, E⟩) rfl rfl (cells_newAt rfl _ 48 (0, 0)) rfl (by unfold maxLen; omega) (by omega) (by simp; omega) ?_)
          intro v' w7 hown hgrow hwh
          obtain ⟨ao', cap', rfl⟩ := ownsRow_form hown
          have HOWN := Lib.hid hown
          have HBG := Lib.hid ((HB2.out.alloc HB2.out.size _).grown hgrow (by simp; omega) (fun j hj => (ownsRow_base HR2.out (by omega) |>.lt j hj).1))
          clear hown hgrow hwh
          go_wp2_with fail
          go_ret2
          refine ⟨_, by rw [HADD.out]; rfl, ?_, HBG.out⟩
          rw [HADD.out]
          refine QuRow.at (base := w.heap.size) ?_
          have := HOWN.out
          unfold QuRow
          rw [List.length_append, List.flatMap_append]
          simpa using this
        · rw [Nat.zero_add] at hf
          have HADD : Hid (addF qs name now len = (qs.set k (updF now E qs[k]), 0)) := by
            unfold Hid; rw [HADD.out, hf, HE.out]
            show ((match qs[k]? with | some q => qs.set k (updF now (endF now len) q) | none => qs), 0) = _
            rw [List.getElem?_eq_getElem hk]
          rw [hf]
          clear hf hpk
          obtain ⟨g, cap', hv, _⟩ := QuRow.open_ HR2.out (by omega)
          injection hv with e1 e2 e3
          subst e1
          obtain ⟨hbg, hgw, hfz, c0, c1, c2, _⟩ := QuRow.lit HR2.out hk
          obtain ⟨b, off, rfl, hbl, d0, d1, d2⟩ := QuAt.at3 HA2.out hk
          have hb0 : b < w1.heap.size := by
            obtain ⟨b', off', hbo, hbl', _⟩ := QuAt.at3 HA1.out hk
            injection hbo with hbo
            injection hbo with hbo
            omega
          have hne : g ≠ b := by omega
          have hne' : b ≠ g := by omega
          have z1 := hfz (k * 3 + 1)
          have z2 := hfz (k * 3 + 2)
          have H21 := Lib.hid (fun b => QuRow.set21 HR2.out hk now b)
          have H2 := Lib.hid (fun b => QuRow.set2 HR2.out hk b)
          clear hfz e2 e3
          have hki : (k : Int) < (qs.length : Int) := by omega
          generalize qs[k] = q at *
          go_wp2_with fail
          refine (on_any q now _).mono ?_
          rintro e w3 ⟨rfl, hb⟩
          obtain ⟨hrow, o, hW⟩ := H2.out (max E q.til)
          have hzx := hW.size
          have HR3 := Lib.hid (show QuRow w3 w1.heap.size (.slice (some ⟨g, 0, none⟩) qs.length rcap) (qs.set k ⟨q.name, q.since, max E q.til⟩) from ownsRow_below hrow hb)
          have hbx := HB2.out.trans (hW.below (show w.heap.size ≤ g by omega))
          have HB3 := Lib.hid (hbx.trans (hb.mono hbx.size))
          have hz3 := hb.size
          clear hrow hW hb hbx
          cases ho : onF q now with
          | true =>
            have HU : Hid (updF now E q = ⟨q.name, q.since, max E q.til⟩) := by
              unfold Hid updF; rw [if_pos ho, Int.max_comm]
            clear ho
            as_aux_lemma =>
            go_wp2_with fail
            go_ret2
            refine ⟨_, by rw [HADD.out]; rfl, ?_, HB3.out⟩
            rw [HADD.out, HU.out]
            exact QuRow.at HR3.out
          | false =>
            have HU : Hid (updF now E q = ⟨q.name, now, max E q.til⟩) := by
              unfold Hid updF; rw [if_neg (by rw [ho]; decide), Int.max_comm]
            clear ho
            obtain ⟨_, _, hfz3, e0, e1, e2, _⟩ := QuRow.lit HR3.out (k := k) (by simpa using hk)
            have z3 := hfz3 (k * 3 + 1)
            have hr4 := H21.out (max E q.til) w3 HR3.out
            have HR4 := Lib.hid hr4
            clear hfz3 hr4
            as_aux_lemma =>
            go_wp2_with fail
            go_ret2
            obtain ⟨hrow, o, hW⟩ := HR4.out
            refine ⟨_, by rw [HADD.out]; rfl, ?_, HB3.out.trans (hW.below (by omega))⟩
            rw [HADD.out, HU.out]
            exact QuRow.at hrow
    · have HADD : Hid (addF qs name now len = (qs, 2)) := by unfold Hid; rw [HADD.out, if_pos hr]
      unfold maxT at hr
      by_cases r1 : now < 0
      · clear hr
        as_aux_lemma =>
        go_wp2_with fail
        go_ret2
        exact ⟨_, by rw [HADD.out]; rfl, by rw [HADD.out]; exact HA1.out, HB1.out⟩
      · have t1 : decide (now < 0) = false := by simp; omega
        by_cases r2 : 1125899906842624 < now
        · clear hr r1
          as_aux_lemma =>
          go_wp2_with fail
          go_ret2
          exact ⟨_, by rw [HADD.out]; rfl, by rw [HADD.out]; exact HA1.out, HB1.out⟩
        · have t2 : decide (1125899906842624 < now) = false := by simp; omega
          by_cases r3 : len < 1
          · clear hr r1 r2
            as_aux_lemma =>
            go_wp2_with fail
            go_ret2
            exact ⟨_, by rw [HADD.out]; rfl, by rw [HADD.out]; exact HA1.out, HB1.out⟩
          · have t3 : decide (len < 1) = false := by simp; omega
            have r4 : 1125899906842624 < len := by
              by_cases h : 1125899906842624 < len
              · exact h
              · exact (hr ⟨by omega, by omega, by omega, by omega⟩).elim
            clear hr r1 r2 r3
            as_aux_lemma =>
            go_wp2_with fail
            go_ret2
            exact ⟨_, by rw [HADD.out]; rfl, by rw [HADD.out]; exact HA1.out, HB1.out⟩
  · have HADD : Hid (addF qs name now len = (qs, 1)) := by unfold Hid addF; rw [if_pos (by rw [HPN.out]; exact hp0)]
    rw [show decide (pn = 0) = false by simp; omega]
    clear hp0
    go_wp2_with fail
    go_ret2
    exact ⟨_, by rw [HADD.out]; rfl, by rw [HADD.out]; exact HA1.out, HB1.out⟩
end Go.Proofs.YthnodeicbicjcaaDoor
