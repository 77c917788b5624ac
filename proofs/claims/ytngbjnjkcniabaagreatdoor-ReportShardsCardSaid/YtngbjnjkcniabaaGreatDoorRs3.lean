/- The walks over the reference's Failed and Status. -/
import Derived.Test.YtngbjnjkcniabaaGreatDoorRp2
import Derived.Test.YtngbjnjkcniabaaGreatDoorRs2
namespace Go.Proofs.YtngbjnjkcniabaaGreatDoor
open Go.RowKit

set_option maxRecDepth 100000 in
set_option maxHeartbeats 1600000 in
theorem rfailed_any (v : Value) (rs : List Qu) (hl : rs.length ≤ 1000) (hsz : ∀ q ∈ rs, q.name.size ≤ 9223372036854775807) (w : World) (h : QuAt w v rs) : Calls Tryz.prog 22 #[v] w (SortPost ((failN rs).map (·.data.toList)) w) := by
  obtain ⟨ao, cap, rfl⟩ := h.form
  have H := Lib.hid h
  have HSZ := Lib.hid (failN_size hsz)
  obtain ⟨i9, hi9⟩ := Tryz.info9'
  have HI := Lib.hid hi9
  clear h hsz hi9
  go_enter Tryz.func22, Tryz.ntmps22
  go_wp2_with fail
  go_loopg [3, 4] rs.length (FaRel w rs)
  case atStart => exact ⟨0, rfl, Nat.zero_le _, rfl, ⟨rfl, .inl ⟨rfl, rfl⟩⟩, Below.refl _ _⟩
  case round =>
    obtain ⟨k, rfl, hk, rfl, hrow, hbel⟩ := hrel
    have HR := Lib.hid hrow
    have HB := Lib.hid hbel
    have hfl := failN_len rs k
    obtain ⟨ro, rcap, rfl⟩ := ownsRow_form hrow
    clear hrow hbel
    by_cases hlt : k < rs.length
    · obtain ⟨b, off, rfl, hbl, c0, c1, c2⟩ := QuAt.at3 (SlAt.below H.out HB.out) hlt
      have hii : (k : Int) < (rs.length : Int) := by omega
      have HF := Lib.hid (failN_succ hlt)
      generalize rs[k] = r at *
      generalize failN (rs.take k) = L at *
      have hws := HB.out.size
      by_cases h2 : r.since = 2
      · have t2 : (r.since == 2) = true := by simp [h2]
        rw [if_pos h2] at HF
        clear h2
        as_aux_lemma =>
        go_wp2_with (at_builtin; refine wpList_append2 rfl _ _ 36 rfl w.heap.size 9 i9 (.string ByteArray.empty) 1 16 Tryz.underlying36 HI.out rfl (by decide) _ _ _ rfl (HR.out.alloc _) ⟨wr.heap.size, 0, none⟩ 1 1 [.string r.name] rfl rfl (cells_newAt rfl _ 9 (0, 0)) rfl (by unfold maxLen; omega) (by omega) (by simp; omega) ?_)
        intro v' w2 hown hgrow hwh
        obtain ⟨ao', cap', rfl⟩ := ownsRow_form hown
        have HOWN := Lib.hid hown
        have HBG := Lib.hid ((HB.out.alloc HB.out.size (.cells #[.string r.name] 9 (0, 0))).grown hgrow (by have := HB.out.size; simp; omega) (fun j hj => (HR.out.lt j hj).1))
        clear hown hgrow hwh
        go_wp2_with fail
        go_roundg (rs.length - (k + 1))
        case measure => omega
        case rel =>
          refine ⟨k + 1, by go_num, by omega, rfl, ?_, HBG.out⟩
          rw [HF.out]
          have := HOWN.out
          simpa using this
      · have t2 : (r.since == 2) = false := by rw [beq_eq_false_iff_ne]; exact h2
        rw [if_neg h2, List.append_nil] at HF
        clear h2
        as_aux_lemma =>
        go_wp2_with fail
        go_roundg (rs.length - (k + 1))
        case measure => omega
        case rel => exact ⟨k + 1, by go_num, by omega, rfl, by rw [HF.out]; exact HR.out, HB.out⟩
    · have he : k = rs.length := by omega
      subst he
      have hii : ¬ (rs.length : Int) < (rs.length : Int) := by omega
      rw [List.take_length] at HR hfl
      have SR := Lib.hid (rsorted_any (.slice ro (failN rs).length rcap) (failN rs) (by omega) HSZ.out wr (StrsAt.of_row HR.out))
      go_wp2_with fail
      refine SR.out.mono ?_
      rintro e w5 ⟨v5, ss5, rfl, h5, h6, hb⟩
      have HB5 := Lib.hid (HB.out.trans (hb.mono HB.out.size))
      have H5 := Lib.hid h5
      have H6 := Lib.hid h6
      clear hb h5 h6
      go_wp2_with fail
      go_ret
      exact ⟨v5, ss5, rfl, H5.out, H6.out, HB5.out⟩

set_option maxRecDepth 100000 in
theorem rstatus_any (v : Value) (rs : List Qu) (hl : rs.length ≤ 1000) (hsz : ∀ q ∈ rs, q.name.size ≤ 9223372036854775807) (w : World) (h : QuAt w v rs) : Calls Tryz.prog 19 #[v] w fun e w' => e = .returned (.int .i64 (statF rs)) ∧ Below w.heap.size w w' := by
  have FA := Lib.hid (rfailed_any v rs hl hsz w h)
  clear h hsz
  go_enter Tryz.func19, Tryz.ntmps19
  go_wp2_with fail
  refine FA.out.mono ?_
  rintro e w5 ⟨v5, ss5, rfl, h5, h6, hb⟩
  have HB := Lib.hid hb
  have hpos := sort_pos ((failN rs).map (·.data.toList))
  rw [← h6, List.length_map, List.length_map, decide_eq_decide] at hpos
  obtain ⟨ao, cap, rfl⟩ := h5.form
  have HP := Lib.hid hpos
  clear hb h5 h6 hpos FA
  by_cases hp : 0 < ss5.length
  · have hpi : (0 : Int) < (ss5.length : Int) := by omega
    have HQ : Hid (statF rs = 2) := if_pos (HP.out.1 hp)
    go_wp2_with fail
    go_ret
    exact ⟨by rw [HQ.out]; rfl, HB.out⟩
  · have hpi : ss5.length = 0 := by omega
    have HQ : Hid (statF rs = 1) := if_neg (fun k => hp (HP.out.2 k))
    rw [hpi]
    clear hp hpi HP
    go_wp2_with fail
    go_ret
    exact ⟨by rw [HQ.out]; rfl, HB.out⟩
end Go.Proofs.YtngbjnjkcniabaaGreatDoor
