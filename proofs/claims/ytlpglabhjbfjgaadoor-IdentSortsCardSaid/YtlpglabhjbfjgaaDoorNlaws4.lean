/- The walk over the law Sorts. -/
import Derived.Test.YtlpglabhjbfjgaaDoorNw9
import Derived.Test.YtlpglabhjbfjgaaDoorNw7b
import Derived.Test.YtlpglabhjbfjgaaDoorNlaws1
namespace Go.Proofs.YtlpglabhjbfjgaaDoor
open Go.RowKit

theorem sort_sizes {ss zs : List ByteArray} (h : datas zs = sortF (datas ss)) (hs : ∀ s ∈ ss, s.size ≤ 1000) : (∀ s ∈ zs, s.size ≤ 9223372036854775807) ∧ zs.length ≤ ss.length := by
  refine ⟨fun s hm => ?_, ?_⟩
  · have h2 := ((sortF_asc (datas ss)).2 s.data.toList).1 (by rw [← h]; exact List.mem_map.2 ⟨s, hm, rfl⟩)
    obtain ⟨t, ht, e⟩ := List.mem_map.1 h2
    have := hs t ht
    rw [Lib.size_eq, ← e, ← Lib.size_eq]
    omega
  · have h2 := sortTo_len (datas ss) (datas ss).length
    have h3 := congrArg List.length h
    rw [List.length_map] at h3
    unfold sortF at h3
    rw [← h3, List.length_map] at h2
    exact h2

set_option maxRecDepth 100000 in
set_option maxHeartbeats 3200000 in
theorem sorts_law (u : Value) (xs : List ByteArray) (m : Int) (w : World) (_hx : ∀ s ∈ xs, s.size ≤ 9223372036854775807) (hu : StrsAt w u xs) (hm : w.cell? ⟨0, 0, none⟩ = some (.int .i64 m)) (hg : 0 < w.heap.size) : Calls Tryd.prog 9 #[u] w (LawPost w) := by
  have LV := Lib.hid (lives_at hm hg)
  clear hm hg
  have B0 := Lib.hid (Below.refl w.heap.size w)
  have HU := Lib.hid hu
  clear hu
  go_enter Tryd.func9, Tryd.ntmps9
  go_wp2_with fail
  refine (few_any u xs 40 (by decide) w HU.out).mono ?_
  rintro e w1 ⟨rfl, rfl⟩
  cases hf : fewF xs 40 with
  | false =>
    clear hf
    go_wp2_with fail
    refine (LV.out _ B0.out).mono ?_
    rintro e w9 ⟨rfl, hb⟩
    have HB := Lib.hid hb
    clear hb
    go_wp2_with fail
    go_ret
    exact ⟨rfl, HB.out⟩
  | true =>
    obtain ⟨hx1, hx2⟩ := fewF_true.1 hf
    have hx3 : ∀ s ∈ xs, s.size ≤ 9223372036854775807 := fun s hs => by have := hx2 s hs; omega
    have HX2 := Lib.hid hx2
    have HX3 := Lib.hid hx3
    clear hf hx2 hx3
    go_wp2_with fail
    refine (sorted_any u xs (by omega) HX3.out w1 HU.out).mono ?_
    rintro e w2 ⟨v, zs, rfl, hat, hzs, hb⟩
    have B2 := Lib.hid hb
    have Z := Lib.hid hat
    obtain ⟨hz1, hz2⟩ := sort_sizes hzs HX2.out
    have HZ1 := Lib.hid hz1
    have HZS := Lib.hid hzs
    clear hb hat hz1 hzs
    go_wp2_with fail
    refine (rsorted_any u xs (by omega) HX3.out w2 (HU.out.below B2.out)).mono ?_
    rintro e w3 ⟨v2, ys, rfl, hat, hys, hb⟩
    obtain rfl : ys = zs := datas_inj _ _ (hys.trans HZS.out.symm)
    have B3 := Lib.hid (B2.out.trans (hb.mono B2.out.size))
    have Z3 := Lib.hid (Z.out.below hb)
    have SM := Lib.hid (same_any v v2 ys ys (by omega) w3 Z3.out hat)
    rw [decide_eq_true (rfl : ys = ys)] at SM
    clear hb hat hys Z
    go_wp2_with fail
    refine SM.out.mono ?_
    rintro e w4 ⟨rfl, hb⟩
    have B4 := Lib.hid (B3.out.trans (hb.mono B3.out.size))
    have Z4 := Lib.hid (Z3.out.below hb)
    clear hb SM Z3
    go_wp2_with fail
    refine (ascending_any u xs (by omega) HX3.out w4 (HU.out.below B4.out)).mono ?_
    rintro e w5 ⟨rfl, hb⟩
    have B5 := Lib.hid (B4.out.trans (hb.mono B4.out.size))
    have Z5 := Lib.hid (Z4.out.below hb)
    clear hb Z4
    go_wp2_with fail
    refine (rascending_any u xs (by omega) HX3.out w5 (HU.out.below B5.out)).mono ?_
    rintro e w6 ⟨rfl, hb⟩
    have B6 := Lib.hid (B5.out.trans (hb.mono B5.out.size))
    have Z6 := Lib.hid (Z5.out.below hb)
    clear hb Z5
    have AC : Hid (ascF (datas ys) = true) := by
      unfold Hid
      show ascF (ys.map (·.data.toList)) = true
      rw [HZS.out]
      exact asc_ascF (sortF_asc _).1
    have AS := Lib.hid (ascending_any v ys (by omega) HZ1.out w6 Z6.out)
    rw [AC.out] at AS
    cases ascF (datas xs) with
    | true =>
      go_wp2_with fail
      refine AS.out.mono ?_
      rintro e w7 ⟨rfl, hb⟩
      have B7 := Lib.hid (B6.out.trans (hb.mono B6.out.size))
      clear hb
      go_wp2_with fail
      refine (LV.out _ B7.out).mono ?_
      rintro e w9 ⟨rfl, hb⟩
      have HB := Lib.hid hb
      clear hb
      go_wp2_with fail
      go_ret
      exact ⟨rfl, HB.out⟩
    | false =>
      go_wp2_with fail
      refine AS.out.mono ?_
      rintro e w7 ⟨rfl, hb⟩
      have B7 := Lib.hid (B6.out.trans (hb.mono B6.out.size))
      clear hb
      go_wp2_with fail
      refine (LV.out _ B7.out).mono ?_
      rintro e w9 ⟨rfl, hb⟩
      have HB := Lib.hid hb
      clear hb
      go_wp2_with fail
      go_ret
      exact ⟨rfl, HB.out⟩
end Go.Proofs.YtlpglabhjbfjgaaDoor
