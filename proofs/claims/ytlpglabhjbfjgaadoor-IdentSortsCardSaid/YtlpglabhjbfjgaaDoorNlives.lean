/- The walk over the law's lives. -/
import Derived.Test.YtlpglabhjbfjgaaDoorNw6
namespace Go.Proofs.YtlpglabhjbfjgaaDoor
open Go.RowKit

theorem str_lit {s : ByteArray} {l : List UInt8} (h : s.data.toList = l) : s = ⟨l.toArray⟩ := by
  cases s; simp at h; subst h; simp

theorem strs_new (w : World) (ss : List ByteArray) : StrsAt (w.alloc (.cells (ss.map Value.string).toArray 9)) (.slice (some ⟨w.heap.size, 0, none⟩) ss.length ss.length) ss := by
  refine .inr ⟨w.heap.size, 0, ss.length, rfl, by simp, Nat.le_refl _, fun i hi => ?_⟩
  rw [cell_of_blk (hp_new rfl)]
  simp [List.getD, hi]

abbrev LawPost (w : World) (e : Ending) (w' : World) : Prop := e = .returned (.bool true) ∧ Below w.heap.size w w'

theorem ev1 : pathN (datas [⟨#[97]⟩, ⟨#[98, 46, 99]⟩]) = 0 ∧ pathS (datas [⟨#[97]⟩, ⟨#[98, 46, 99]⟩]) = [97, 47, 98, 46, 99] := by decide +kernel
theorem ev2 : partsF [97, 47, 98, 47, 99] = 0 ∧ (pcs 47 [97, 47, 98, 47, 99]).length = 3 := by decide +kernel
theorem ev3 : hasP [97, 47, 98, 47, 99] = true ∧ parS [97, 47, 98, 47, 99] = [97, 47, 98] := by decide +kernel
theorem ev4 : nameF [98, 117, 105, 108, 100, 45, 50] = true := by decide +kernel
theorem ev5 : withF [97, 47, 98] [97] = true := by decide +kernel
theorem ev6 : natC [116, 101, 115, 116, 46, 50] [116, 101, 115, 116, 46, 49, 48] = -1 := by decide +kernel
theorem ev7 : ascF (datas [⟨#[97]⟩, ⟨#[98]⟩]) = true := by decide +kernel
theorem ev8 : (sortF (datas [⟨#[98]⟩, ⟨#[97]⟩, ⟨#[98]⟩])).length = 2 := by decide +kernel

set_option maxRecDepth 100000 in
set_option maxHeartbeats 1600000 in
theorem lives_any (m : Int) (w : World) (hm : w.cell? ⟨0, 0, none⟩ = some (.int .i64 m)) (hg : 0 < w.heap.size) : Calls Tryd.prog 10 #[] w (LawPost w) := by
  have MX : Hid (∀ W, Below w.heap.size w W → W.cell? ⟨0, 0, none⟩ = some (.int .i64 m) ∧ 0 < W.heap.size) := fun W hW => ⟨(hW.cell (p := ⟨0, 0, none⟩) hg).trans hm, Nat.lt_of_lt_of_le hg hW.size⟩
  have B0 := Lib.hid (Below.refl w.heap.size w)
  clear hm hg
  go_enter Tryd.func10, Tryd.ntmps10
  go_wp2_with fail
  refine (path_any _ [⟨#[97]⟩, ⟨#[98, 46, 99]⟩] (by decide) _ (strs_new w [⟨#[97]⟩, ⟨#[98, 46, 99]⟩])).mono ?_
  rintro e w1 ⟨s, he, hs, hb⟩
  rw [ev1.1] at he
  rw [ev1.2] at hs
  obtain rfl := str_lit hs
  subst he
  have B1 := Lib.hid ((B0.out.alloc (Nat.le_refl _) (.cells #[.string ⟨#[97]⟩, .string ⟨#[98, 46, 99]⟩] 9)).trans (hb.mono (by simp)))
  clear hb hs
  go_wp2_with fail
  refine (parts_any ⟨#[97, 47, 98, 47, 99]⟩ m w1 (MX.out _ B1.out).1).mono ?_
  rintro e w2 ⟨v, ss, he, hb, h0, _⟩
  have e2 : partsF ((⟨#[97, 47, 98, 47, 99]⟩ : ByteArray).data.toList) = 0 := ev2.1
  obtain ⟨hat, hss⟩ := h0 e2
  rw [e2] at he
  have hl3 : ss.length = 3 := by
    have := congrArg List.length hss
    rw [List.length_map] at this
    rw [this]; exact ev2.2
  obtain ⟨ao, cap, rfl⟩ := hat.form
  rw [hl3] at he
  subst he
  have B2 := Lib.hid (B1.out.trans (hb.mono B1.out.size))
  clear hb h0 hat hss hl3 e2
  go_wp2_with fail
  refine (parent_any ⟨#[97, 47, 98, 47, 99]⟩ m w2 (MX.out _ B2.out).1).mono ?_
  rintro e w3 ⟨p, he, hp, hb⟩
  rw [show hasP ((⟨#[97, 47, 98, 47, 99]⟩ : ByteArray).data.toList) = true from ev3.1] at he
  rw [show parS ((⟨#[97, 47, 98, 47, 99]⟩ : ByteArray).data.toList) = _ from ev3.2] at hp
  obtain rfl := str_lit hp
  subst he
  have B3 := Lib.hid (B2.out.trans (hb.mono B2.out.size))
  clear hb hp
  go_wp2_with fail
  refine (name_any ⟨#[98, 117, 105, 108, 100, 45, 50]⟩ w3).mono ?_
  rintro e w4 ⟨he, hb⟩
  rw [show nameF ((⟨#[98, 117, 105, 108, 100, 45, 50]⟩ : ByteArray).data.toList) = true from ev4] at he
  subst he
  have B4 := Lib.hid (B3.out.trans (hb.mono B3.out.size))
  clear hb
  go_wp2_with fail
  refine (within_any ⟨#[97, 47, 98]⟩ ⟨#[97]⟩ m w4 (MX.out _ B4.out).1 (MX.out _ B4.out).2).mono ?_
  rintro e w5 ⟨he, hb⟩
  rw [show withF ((⟨#[97, 47, 98]⟩ : ByteArray).data.toList) ((⟨#[97]⟩ : ByteArray).data.toList) = true from ev5] at he
  subst he
  have B5 := Lib.hid (B4.out.trans (hb.mono B4.out.size))
  clear hb
  go_wp2_with fail
  refine (compare_any ⟨#[116, 101, 115, 116, 46, 50]⟩ ⟨#[116, 101, 115, 116, 46, 49, 48]⟩ (by decide) (by decide) w5).mono ?_
  rintro e w6 ⟨he, hb⟩
  rw [show natC ((⟨#[116, 101, 115, 116, 46, 50]⟩ : ByteArray).data.toList) ((⟨#[116, 101, 115, 116, 46, 49, 48]⟩ : ByteArray).data.toList) = -1 from ev6] at he
  subst he
  have B6 := Lib.hid (B5.out.trans (hb.b.mono B5.out.size))
  clear hb
  go_wp2_with fail
  refine (ascending_any _ [⟨#[97]⟩, ⟨#[98]⟩] (by decide) (by decide) _ (strs_new w6 [⟨#[97]⟩, ⟨#[98]⟩])).mono ?_
  rintro e w7 ⟨he, hb⟩
  rw [ev7] at he
  subst he
  have B7 := Lib.hid ((B6.out.alloc B6.out.size (.cells #[.string ⟨#[97]⟩, .string ⟨#[98]⟩] 9)).trans (hb.mono (by have := B6.out.size; simp; omega)))
  clear hb
  go_wp2_with fail
  refine (sorted_any _ [⟨#[98]⟩, ⟨#[97]⟩, ⟨#[98]⟩] (by decide) (by decide) _ (strs_new w7 [⟨#[98]⟩, ⟨#[97]⟩, ⟨#[98]⟩])).mono ?_
  rintro e w8 ⟨v, ss, rfl, hat, hss, hb⟩
  have hl2 : ss.length = 2 := by
    have := congrArg List.length hss
    rw [List.length_map] at this
    rw [this]; exact ev8
  obtain ⟨ao, cap, rfl⟩ := hat.form
  rw [hl2]
  have B8 := Lib.hid ((B7.out.alloc B7.out.size (.cells #[.string ⟨#[98]⟩, .string ⟨#[97]⟩, .string ⟨#[98]⟩] 9)).trans (hb.mono (by have := B7.out.size; simp; omega)))
  clear hb hat hss hl2
  go_wp2_with fail
  go_ret
  exact ⟨rfl, B8.out⟩
end Go.Proofs.YtlpglabhjbfjgaaDoor
