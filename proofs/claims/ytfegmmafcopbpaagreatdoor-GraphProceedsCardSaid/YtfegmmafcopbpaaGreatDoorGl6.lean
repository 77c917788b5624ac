/- The law GraphProceeds: its walk. -/
import Derived.Test.YtfegmmafcopbpaaGreatDoorGl2
import Derived.Test.YtfegmmafcopbpaaGreatDoorGd2
import Derived.Test.YtfegmmafcopbpaaGreatDoorRg5
namespace Go.Proofs.YtfegmmafcopbpaaGreatDoor
open Go.RowKit

def ProRel (w1 : World) (G : Gr) (f : Nat) (t4 t5 : Value) (wr : World) : Prop :=
  ∃ (i : Nat) (ss : List ByteArray), t5 = .int .i64 (i : Nat) ∧ i ≤ G.length ∧ f = G.length - i ∧ wr.ownsRow w1.heap.size 9 1 t4 ss.length (ss.map Value.string) ∧ dts ss = doneTo G i ∧ Below w1.heap.size w1 wr

set_option maxRecDepth 100000 in
set_option maxHeartbeats 3200000 in
theorem proceeds_law (nv : Value) (ns : List Nd) (hlen : 40 * ns.length ≤ 281474976710656) (m : Int) (w : World) (hN : NdAt w nv ns) (hm : w.cell? ⟨0, 0, none⟩ = some (.int .i64 m)) (hml : 0 < w.heap.size) :
    Calls Tryz.prog 9 #[nv] w (LawPost w) := by
  have MX : ∀ W, Below w.heap.size w W → W.cell? ⟨0, 0, none⟩ = some (.int .i64 m) ∧ 0 < W.heap.size := fun W hW => ⟨(hW.cell (p := ⟨0, 0, none⟩) hml).trans hm, Nat.lt_of_lt_of_le hml hW.size⟩
  have VA := Lib.hid (valid_any nv ns m hlen w hN hm hml)
  have SM := fun W (hW : Below w.heap.size w W) => Lib.hid (small_any nv ns 200 (by decide) W (hN.below hW))
  have AW := fun W (hW : Below w.heap.size w W) => Lib.hid (awake_any m W (MX W hW).1 (MX W hW).2)
  have RD : ∀ W v ss, Below w.heap.size w W → StrsAt W v ss → ss.length ≤ 1000 → Hid (Calls Tryz.prog 25 #[nv, v] W (StrPost (readyF (grO ns) (dts ss)) W)) := fun W v ss hW hs h2 => ready_any nv v ns ss m hlen (by omega) W (hN.below hW) hs (MX W hW).1 (MX W hW).2
  have HL := Lib.hid (grO_len ns)
  have PRO := Lib.hid (proceeds (G := grO ns))
  obtain ⟨ao, cap, rfl⟩ := hN.sl.form
  obtain ⟨i9, hi9⟩ := Tryz.info9'
  have HI := Lib.hid hi9
  clear hN hm hml MX hi9
  go_enter Tryz.func9, Tryz.ntmps9
  go_wp2_with fail
  refine VA.out.mono ?_
  rintro e w1 ⟨rfl, hb⟩
  have B1 := Lib.hid hb
  have SM1 := SM w1 hb
  clear hb VA SM
  by_cases hs : smallF ns 200 = true
  · have hl := small_len hs
    rw [hs] at SM1
    clear hs
    by_cases hv : validF (grO ns) = 0 ∨ validF (grO ns) = 14
    · have hpro := PRO.out hv
      have hp1 := Lib.hid hpro.1
      have hp3 := Lib.hid hpro.2.2
      have key : (∃ v : Nat, validF (grO ns) = v ∧ (v = 0 ∨ v = 14) ∧ ((v = 0 ∧ (doneTo (grO ns) (grO ns).length).length = (grO ns).length) ∨ (v ≠ 0 ∧ (doneTo (grO ns) (grO ns).length).length ≠ (grO ns).length))) := by
        refine ⟨_, rfl, hv, ?_⟩
        have h2 := hpro.2.1
        rw [decide_eq_decide] at h2
        by_cases h0 : validF (grO ns) = 0
        · exact .inl ⟨h0, h2.2 h0⟩
        · exact .inr ⟨h0, fun h => h0 (h2.1 h)⟩
      obtain ⟨v, hv1, hv2, hv3⟩ := key
      rw [hv1]
      rw [HL.out] at hv3
      have HV3 := Lib.hid hv3
      clear hpro hv hv1 hv3 PRO
      rcases hv2 with rfl | rfl
      all_goals
        go_wp2_with fail
        refine SM1.out.mono ?_
        rintro e w2 ⟨rfl, rfl⟩
        go_wp2_with fail
        go_loopg [4, 5] ns.length (ProRel w (grO ns))
        case atStart => exact ⟨0, [], rfl, Nat.zero_le _, by rw [HL.out]; rfl, World.ownsRow_nil _ _ _ _, rfl, B1.out⟩
        case round =>
          obtain ⟨i, ss, rfl, hi, hff, hown, hdt, hbr⟩ := hrel
          rw [HL.out] at hi hff
          subst hff
          have hsl := hp3.out i
          rw [← hdt, dts_len, HL.out] at hsl
          have HOWN := Lib.hid hown
          have HDT := Lib.hid hdt
          have HBR := Lib.hid hbr
          obtain ⟨a4, c4, rfl⟩ := ownsRow_form hown
          have hws := hbr.size
          have RD1 := RD _ _ ss hbr (StrsAt.of_row hown) (by omega)
          clear hown hdt hbr
          by_cases hlt : i < ns.length
          · have hii : ((i : Nat) : Int) < (ns.length : Int) := by omega
            have HP3S := Lib.hid (hp3.out (i + 1))
            as_aux_lemma =>
            go_wp2_with fail
            refine RD1.out.mono ?_
            rintro e w3 ⟨r3, xs3, rfl, hs3, hd3, hb⟩
            have HDS : Hid (dts (ss ++ xs3) = doneTo (grO ns) (i + 1)) := by
              unfold Hid
              rw [doneTo, ← HDT.out, ← hd3]
              simp [dts]
            have hxl : ss.length + xs3.length ≤ ns.length := by
              have h1 := HP3S.out
              rw [← HDS.out, dts_len, HL.out, List.length_append] at h1
              exact h1
            have HB3 := Lib.hid (HBR.out.trans (hb.mono hws))
            have HS3 := Lib.hid hs3
            have HOW3 := Lib.hid (ownsRow_below HOWN.out hb)
            have hws3 := HB3.out.size
            clear hb hs3 hd3 RD1 HP3S
            go_wp2_with (at_builtin; refine wpList_append_strs rfl _ _ 35 rfl w.heap.size i9 Tryz.underlying35 HI.out _ _ ss rfl HOW3.out rfl r3 xs3 rfl HS3.out (by omega) (by omega) ?_)
            intro v6 w6 hown hgrow _
            have HB6 : Hid (Below w.heap.size w w6) := HB3.out.grown hgrow (by omega) fun k hk => (World.ownsRow.lt HOW3.out k hk).1
            have HO6 : Hid (w6.ownsRow w.heap.size 9 1 v6 (ss ++ xs3).length ((ss ++ xs3).map Value.string))   := by unfold Hid; rw [List.length_append, List.map_append]; exact hown
            clear hown hgrow
            go_wp2_with fail
            go_roundg (ns.length - (i + 1))
            case measure => omega
            case rel => exact ⟨i + 1, ss ++ xs3, by go_num, by rw [HL.out]; omega, by rw [HL.out], HO6.out, HDS.out, HB6.out⟩
          · have he : i = ns.length := by omega
            subst he
            have hnone : readyF (grO ns) (dts ss) = [] := by rw [HDT.out]; have := hp1.out; rwa [HL.out] at this
            rw [hnone] at RD1
            have hL : ss.length = (doneTo (grO ns) ns.length).length := by rw [← HDT.out, dts_len]
            have hq : (((ss.length : Nat) : Int) == ((ns.length : Nat) : Int)) = decide (ss.length = ns.length) := by
              rw [Bool.eq_iff_iff, beq_iff_eq, decide_eq_true_eq]; omega
            have HV4 := HV3.out
            rw [← hL] at HV4
            first
              | (rcases HV4 with ⟨_, h5⟩ | ⟨h5, _⟩
                 · rw [decide_eq_true h5] at hq
                   clear h5 hL hnone HV3
                   as_aux_lemma =>
                   go_wp2_with fail
                   refine RD1.out.mono ?_
                   rintro e w3 ⟨r3, xs3, rfl, hs3, hd3, hb⟩
                   have hx0 : xs3 = [] := by have := congrArg List.length hd3; simp at this; exact this
                   subst hx0
                   obtain ⟨ra, rc, rfl⟩ := hs3.form
                   have HB3 := Lib.hid (HBR.out.trans (hb.mono hws))
                   clear hb hs3 hd3 RD1
                   go_wp2_with fail
                   refine (AW _ HB3.out).out.mono ?_
                   rintro e w4 ⟨rfl, hb⟩
                   have HB4 := Lib.hid (HB3.out.trans (hb.mono HB3.out.size))
                   clear hb
                   go_wp2_with fail
                   go_ret
                   exact ⟨rfl, HB4.out⟩
                 · exact absurd rfl h5)
              | (rcases HV4 with ⟨h5, _⟩ | ⟨_, h5⟩
                 · exact absurd h5 (by decide)
                 · rw [decide_eq_false h5] at hq
                   clear h5 hL hnone HV3
                   as_aux_lemma =>
                   go_wp2_with fail
                   refine RD1.out.mono ?_
                   rintro e w3 ⟨r3, xs3, rfl, hs3, hd3, hb⟩
                   have hx0 : xs3 = [] := by have := congrArg List.length hd3; simp at this; exact this
                   subst hx0
                   obtain ⟨ra, rc, rfl⟩ := hs3.form
                   have HB3 := Lib.hid (HBR.out.trans (hb.mono hws))
                   clear hb hs3 hd3 RD1
                   go_wp2_with fail
                   refine (AW _ HB3.out).out.mono ?_
                   rintro e w4 ⟨rfl, hb⟩
                   have HB4 := Lib.hid (HB3.out.trans (hb.mono HB3.out.size))
                   clear hb
                   go_wp2_with fail
                   go_ret
                   exact ⟨rfl, HB4.out⟩)
    · have hv0 : (((validF (grO ns) : Nat) : Int) != 0) = true := by simp; omega
      have hv14 : (((validF (grO ns) : Nat) : Int) != 14) = true := by rw [bne_iff_ne]; omega
      clear hv PRO
      generalize validF (grO ns) = v at *
      as_aux_lemma =>
      go_wp2_with fail
      refine SM1.out.mono ?_
      rintro e w2 ⟨rfl, rfl⟩
      go_wp2_with fail
      refine (AW _ B1.out).out.mono ?_
      rintro e w2 ⟨rfl, hb⟩
      have HB := Lib.hid (B1.out.trans (hb.mono B1.out.size))
      clear hb
      go_wp2_with fail
      go_ret
      exact ⟨rfl, HB.out⟩
  · have hs' : smallF ns 200 = false := by simpa using hs
    rw [hs'] at SM1
    clear hs hs' PRO
    generalize validF (grO ns) = v at *
    as_aux_lemma =>
    go_wp2_with fail
    refine SM1.out.mono ?_
    rintro e w2 ⟨rfl, rfl⟩
    go_wp2_with fail
    refine (AW _ B1.out).out.mono ?_
    rintro e w2 ⟨rfl, hb⟩
    have HB := Lib.hid (B1.out.trans (hb.mono B1.out.size))
    clear hb
    go_wp2_with fail
    go_ret
    exact ⟨rfl, HB.out⟩
end Go.Proofs.YtfegmmafcopbpaaGreatDoor
