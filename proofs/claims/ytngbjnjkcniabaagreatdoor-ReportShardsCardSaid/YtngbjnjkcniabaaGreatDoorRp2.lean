/- The walks over report.Failed and Status. -/
import Derived.Test.YtngbjnjkcniabaaGreatDoorRp1
import Derived.Test.YtngbjnjkcniabaaGreatDoorNatS
import Derived.Test.YtngbjnjkcniabaaGreatDoorNw4
namespace Go.Proofs.YtngbjnjkcniabaaGreatDoor
open Go.RowKit

def failN (rs : List Qu) : List ByteArray := (rs.filter fun r => decide (r.since = 2)).map (·.name)
theorem sort_pos (L : List Bs) : decide (0 < (sortF L).length) = decide (0 < L.length) := by
  rw [decide_eq_decide, List.length_pos_iff_exists_mem, List.length_pos_iff_exists_mem]
  exact exists_congr fun x => (sortF_asc L).2 x

theorem failN_succ {rs : List Qu} {k : Nat} (hk : k < rs.length) : failN (rs.take (k + 1)) = failN (rs.take k) ++ (if rs[k].since = 2 then [rs[k].name] else []) := by
  unfold failN
  rw [List.take_add_one, List.getElem?_eq_getElem hk, List.filter_append, List.map_append]
  congr 1
  by_cases h : rs[k].since = 2
  · simp [h]
  · simp [h]
theorem failN_len (rs : List Qu) (k : Nat) : (failN (rs.take k)).length ≤ k := by
  unfold failN
  rw [List.length_map]
  refine Nat.le_trans (List.length_filter_le _ _) ?_
  rw [List.length_take]; omega
theorem failN_size {rs : List Qu} (h : ∀ q ∈ rs, q.name.size ≤ 9223372036854775807) : ∀ s ∈ failN rs, s.size ≤ 9223372036854775807 := by
  intro s hs
  obtain ⟨q, hq, rfl⟩ := List.mem_map.1 hs
  exact h q (List.mem_filter.1 hq).1

def FaRel (w1 : World) (rs : List Qu) (f : Nat) (tout tix : Value) (wr : World) : Prop :=
  ∃ k : Nat, tix = .int .i64 (k : Nat) ∧ k ≤ rs.length ∧ f = rs.length - k ∧ wr.ownsRow w1.heap.size 9 1 tout (failN (rs.take k)).length ((failN (rs.take k)).map Value.string) ∧ Below w1.heap.size w1 wr

set_option maxRecDepth 100000 in
set_option maxHeartbeats 1600000 in
theorem failed_any (v : Value) (rs : List Qu) (hl : rs.length ≤ 1000) (hsz : ∀ q ∈ rs, q.name.size ≤ 9223372036854775807) (w : World) (h : QuAt w v rs) : Calls Tryz.prog 21 #[v] w (SortPost ((failN rs).map (·.data.toList)) w) := by
  obtain ⟨ao, cap, rfl⟩ := h.form
  have H := Lib.hid h
  have HSZ := Lib.hid (failN_size hsz)
  obtain ⟨i9, hi9⟩ := Tryz.info9'
  have HI := Lib.hid hi9
  clear h hsz hi9
  go_enter Tryz.func21, Tryz.ntmps21
  go_wp2_with fail
  go_loopg [3, 8] rs.length (FaRel w rs)
  case atStart => exact ⟨0, rfl, Nat.zero_le _, rfl, ⟨rfl, .inl ⟨rfl, rfl⟩⟩, Below.refl _ _⟩
  case round =>
    obtain ⟨k, rfl, hk, rfl, hrow, hbel⟩ := hrel
    have HR := Lib.hid hrow
    have HB := Lib.hid hbel
    have hfl := failN_len rs k
    obtain ⟨ro, rcap, rfl⟩ := ownsRow_form hrow
    clear hrow hbel
    by_cases hlt : k < rs.length
    · obtain ⟨b, off, rfl, hbl, c0, c1, c2⟩ := QuAt.at3 (SlAt.below H.out HB.out) hlt
      have hii : (k : Int) < (rs.length : Int) := by omega
      have HF := Lib.hid (failN_succ hlt)
      generalize rs[k] = r at *
      generalize failN (rs.take k) = L at *
      by_cases h2 : r.since = 2
      · have t2 : (r.since == 2) = true := by simp [h2]
        rw [if_pos h2] at HF
        clear h2
        as_aux_lemma =>
        go_wp2_with (at_builtin; refine wpList_append2 rfl _ _ 36 rfl w.heap.size 9 i9 (.string ByteArray.empty) 1 16 Tryz.underlying36 HI.out rfl (by decide) _ _ _ rfl ((HR.out.alloc _).alloc _) ⟨wr.heap.size + 1, 0, none⟩ 1 1 [.string r.name] rfl rfl (cells_newAt (by simp) _ 9 (0, 0)) rfl (by unfold maxLen; omega) (by omega) (by have := HB.out.size; simp; omega) ?_)
        intro v' w2 hown hgrow hwh
        obtain ⟨ao', cap', rfl⟩ := ownsRow_form hown
        have HOWN := Lib.hid hown
        have HBG := Lib.hid (((HB.out.alloc HB.out.size _).alloc (by have := HB.out.size; simp; omega) _).grown hgrow (by have := HB.out.size; simp; omega) (fun j hj => (HR.out.lt j hj).1))
        clear hown hgrow hwh
        go_wp2_with fail
        go_roundg (rs.length - (k + 1))
        case measure => omega
        case rel =>
          refine ⟨k + 1, by go_num, by omega, rfl, ?_, HBG.out⟩
          rw [HF.out]
          have := HOWN.out
          simpa using this
      · have t2 : (r.since == 2) = false := by rw [beq_eq_false_iff_ne]; exact h2
        rw [if_neg h2, List.append_nil] at HF
        clear h2
        as_aux_lemma =>
        go_wp2_with fail
        go_roundg (rs.length - (k + 1))
        case measure => omega
        case rel => exact ⟨k + 1, by go_num, by omega, rfl, by rw [HF.out]; exact HR.out.alloc _, HB.out.alloc HB.out.size _⟩
    · have he : k = rs.length := by omega
      subst he
      have hii : ¬ (rs.length : Int) < (rs.length : Int) := by omega
      rw [List.take_length] at HR hfl
      have SR := Lib.hid (sorted_any (.slice ro (failN rs).length rcap) (failN rs) (by omega) HSZ.out wr (StrsAt.of_row HR.out))
      go_wp2_with fail
      refine SR.out.mono ?_
      rintro e w5 ⟨v5, ss5, rfl, h5, h6, hb⟩
      have HB5 := Lib.hid (HB.out.trans (hb.mono HB.out.size))
      have H5 := Lib.hid h5
      have H6 := Lib.hid h6
      clear hb h5 h6
      go_wp2_with fail
      go_ret
      exact ⟨v5, ss5, rfl, H5.out, H6.out, HB5.out⟩

def statF (rs : List Qu) : Int := if 0 < (failN rs).length then 2 else 1

set_option maxRecDepth 100000 in
theorem status_any (v : Value) (rs : List Qu) (hl : rs.length ≤ 1000) (hsz : ∀ q ∈ rs, q.name.size ≤ 9223372036854775807) (w : World) (h : QuAt w v rs) : Calls Tryz.prog 18 #[v] w fun e w' => e = .returned (.int .i64 (statF rs)) ∧ Below w.heap.size w w' := by
  have FA := Lib.hid (failed_any v rs hl hsz w h)
  clear h hsz
  go_enter Tryz.func18, Tryz.ntmps18
  go_wp2_with fail
  refine FA.out.mono ?_
  rintro e w5 ⟨v5, ss5, rfl, h5, h6, hb⟩
  have HB := Lib.hid hb
  have hpos := sort_pos ((failN rs).map (·.data.toList))
  rw [← h6, List.length_map, List.length_map, decide_eq_decide] at hpos
  obtain ⟨ao, cap, rfl⟩ := h5.form
  have HP := Lib.hid hpos
  clear hb h5 h6 hpos FA
  by_cases hp : 0 < ss5.length
  · have hpi : (0 : Int) < (ss5.length : Int) := by omega
    have HQ : Hid (statF rs = 2) := if_pos (HP.out.1 hp)
    go_wp2_with fail
    go_ret
    exact ⟨by rw [HQ.out]; rfl, HB.out⟩
  · have hpi : ss5.length = 0 := by omega
    have HQ : Hid (statF rs = 1) := if_neg (fun k => hp (HP.out.2 k))
    rw [hpi]
    clear hp hpi HP
    go_wp2_with fail
    go_ret
    exact ⟨by rw [HQ.out]; rfl, HB.out⟩
end Go.Proofs.YtngbjnjkcniabaaGreatDoor
