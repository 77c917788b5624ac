/- The walk over the law's lives. -/
import Derived.Test.YthnodeicbicjcaaDoorQua9
namespace Go.Proofs.YthnodeicbicjcaaDoor
open Go.RowKit

def qA : Qu := ⟨⟨#[97]⟩, 100, 150⟩
def qT : Qu := ⟨⟨#[116]⟩, 100, 150⟩
theorem ev_add : addF [] ⟨#[97]⟩ 100 50 = ([qA], 0) := by
  have h : partsF (⟨#[97]⟩ : ByteArray).data.toList = 0 := by decide +kernel
  unfold addF
  rw [if_neg (by rw [h]; simp), if_neg (by decide)]
  rfl
theorem ev_up : upTo [] [⟨#[116]⟩] 100 50 1 = [qT] := by
  have h : partsF (⟨#[116]⟩ : ByteArray).data.toList = 0 := by decide +kernel
  unfold upTo upTo stepU
  rw [if_neg (by simp)]
  unfold addF
  rw [if_neg (by rw [show ([⟨#[116]⟩] : List ByteArray).getD 0 ByteArray.empty = ⟨#[116]⟩ from rfl, h]; simp), if_neg (by decide)]
  rfl
theorem ev_act : [qA].any (actF ⟨#[97]⟩ 149) = true := by
  have h : sameN qA.name ⟨#[97]⟩ = true := sameN_iff.2 rfl
  simp only [List.any_cons, List.any_nil, Bool.or_false]
  unfold actF
  rw [h]; decide
theorem ev_ap : [(⟨⟨#[97]⟩, 2, 0⟩ : Qu), ⟨⟨#[98]⟩, 2, 0⟩].map (apF [qA] 120) = [⟨⟨#[97]⟩, 3, 0⟩, ⟨⟨#[98]⟩, 2, 0⟩] := by
  have h1 : sameN qA.name ⟨#[97]⟩ = true := sameN_iff.2 rfl
  have h2 : sameN qA.name ⟨#[98]⟩ = false := by
    rw [Bool.eq_false_iff]; intro h
    have := sameN_iff.1 h
    exact absurd (congrArg (fun b : ByteArray => b.data.toList) this) (by decide)
  have a1 : apF [qA] 120 ⟨⟨#[97]⟩, 2, 0⟩ = ⟨⟨#[97]⟩, 3, 0⟩ := by
    unfold apF
    rw [if_pos ⟨rfl, by simp only [List.any_cons, List.any_nil, Bool.or_false]; unfold actF; rw [h1]; decide⟩]
  have a2 : apF [qA] 120 ⟨⟨#[98]⟩, 2, 0⟩ = ⟨⟨#[98]⟩, 2, 0⟩ := by
    unfold apF
    rw [if_neg (fun h => by
      have := h.2
      simp only [List.any_cons, List.any_nil, Bool.or_false] at this
      unfold actF at this
      rw [h2] at this; cases this)]
  simp only [List.map_cons, List.map_nil, a1, a2]

set_option maxRecDepth 100000 in
set_option maxHeartbeats 1600000 in
theorem lives_any (m : Int) (w : World) (hm : w.cell? ⟨0, 0, none⟩ = some (.int .i64 m)) (hg : 0 < w.heap.size) :
    Calls Tryd.prog 10 #[] w fun e w' => e = .returned (.bool true) ∧ Below w.heap.size w w' := by
  have HM := Lib.hid hm
  clear hm
  go_enter Tryd.func10, Tryd.ntmps10
  go_wp2_with fail
  refine (add_any (.slice none 0 0) [] (by simp) ⟨#[97]⟩ 100 50 m w (.inl ⟨_, _, rfl, rfl⟩) HM.out hg).mono ?_
  rw [ev_add]
  rintro e w1 ⟨lv, rfl, hq, hb⟩
  obtain ⟨lo, lcap, rfl⟩ := SlAt.form hq
  have HL := Lib.hid hq
  have HB1 := Lib.hid hb
  clear hq hb
  have HBR := Lib.hid ((Below.refl w1.heap.size w1).alloc (Nat.le_refl _) (.cells #[.string ⟨#[97]⟩, .int .i64 2, .int .i64 0, .string ⟨#[98]⟩, .int .i64 2, .int .i64 0] 45))
  have HRS : Hid (QuAt (w1.alloc (.cells #[.string ⟨#[97]⟩, .int .i64 2, .int .i64 0, .string ⟨#[98]⟩, .int .i64 2, .int .i64 0] 45)) (.slice (some ⟨w1.heap.size, 0, none⟩) 2 2) [⟨⟨#[97]⟩, 2, 0⟩, ⟨⟨#[98]⟩, 2, 0⟩]) := by
    refine .inr ⟨w1.heap.size, 0, 2, rfl, by simp, fun k hk j u hu => ?_⟩
    rw [cell_of_blk (hp_new rfl)]
    have h2 : k = 0 ∨ k = 1 := by simp at hk; omega
    rcases h2 with rfl | rfl <;> (rcases j with _ | _ | _ | j <;> first | exact hu | (simp [Qu.cells] at hu))
  go_wp2_with fail
  generalize w1.alloc (.cells #[.string ⟨#[97]⟩, .int .i64 2, .int .i64 0, .string ⟨#[98]⟩, .int .i64 2, .int .i64 0] 45) = w2 at *
  refine (apply_any _ _ _ [qA] (by simp) (by simp) 120 w2 HRS.out (SlAt.below HL.out HBR.out)).mono ?_
  rw [ev_ap]
  rintro e w3 ⟨rv, rfl, hrow, hb⟩
  obtain ⟨ro, rcap, rfl⟩ := ownsRow_form hrow
  have HR := Lib.hid (TrRow.at hrow)
  have HL3 := Lib.hid (SlAt.below (SlAt.below HL.out HBR.out) hb)
  have hb13 := HBR.out.trans (hb.mono HBR.out.size)
  have HB3 := Lib.hid (HB1.out.trans (hb13.mono HB1.out.size))
  clear hrow hb hb13
  have HBE := Lib.hid ((Below.refl w3.heap.size w3).alloc (Nat.le_refl _) (.cells #[.string ⟨#[116]⟩, .int .i64 0, .int .i64 0, .int .i64 2, .int .u64 0, .int .i64 0] 52))
  have HES : Hid (EvAt (w3.alloc (.cells #[.string ⟨#[116]⟩, .int .i64 0, .int .i64 0, .int .i64 2, .int .u64 0, .int .i64 0] 52)) (.slice (some ⟨w3.heap.size, 0, none⟩) 1 1) [⟨⟨#[116]⟩, 0, 0, 2, 0, 0⟩]) := by
    refine .inr ⟨w3.heap.size, 0, 1, rfl, by simp, fun k hk j u hu => ?_⟩
    rw [cell_of_blk (hp_new rfl)]
    obtain rfl : k = 0 := by simp at hk; omega
    rcases j with _ | _ | _ | _ | _ | _ | j <;> first | exact hu | (simp [Ev.cells] at hu)
  go_wp2_with fail
  generalize w3.alloc (.cells #[.string ⟨#[116]⟩, .int .i64 0, .int .i64 0, .int .i64 2, .int .u64 0, .int .i64 0] 52) = w4 at *
  have HB4 := Lib.hid (HB3.out.trans (HBE.out.mono HB3.out.size))
  refine (update_any (.slice none 0 0) _ [] [⟨⟨#[116]⟩, 0, 0, 2, 0, 0⟩] (by simp) (by simp) 100 50 m w4 (.inl ⟨_, _, rfl, rfl⟩) HES.out ((HB4.out.cell (p := ⟨0, 0, none⟩) hg).trans HM.out) (Nat.lt_of_lt_of_le hg HB4.out.size)).mono ?_
  rw [show flakF [⟨⟨#[116]⟩, 0, 0, 2, 0, 0⟩] ([⟨⟨#[116]⟩, 0, 0, 2, 0, 0⟩] : List Ev).length = [⟨#[116]⟩] from rfl, show ([⟨#[116]⟩] : List ByteArray).length = 1 from rfl, ev_up]
  rintro e w5 ⟨uv, rfl, hq, hb⟩
  obtain ⟨uo, ucap, rfl⟩ := SlAt.form hq
  have hb35 := HBE.out.trans (hb.mono HBE.out.size)
  have HL5 := Lib.hid (SlAt.below HL3.out hb35)
  have HR5 := Lib.hid (SlAt.below HR.out hb35)
  have HB5 := Lib.hid (HB4.out.trans (hb.mono HB4.out.size))
  clear hq hb hb35 HBE HES HB4
  obtain ⟨lb, loff, rfl, hlb, l0, l1, l2⟩ := QuAt.at3 HL5.out (k := 0) (by simp)
  simp only [Nat.zero_mul, Nat.add_zero, List.getElem_cons_zero, qA] at l0 l1 l2
  go_wp2_with fail
  refine (active_any _ [qA] (by simp) ⟨#[97]⟩ 149 w5 HL5.out).mono ?_
  rw [ev_act]
  rintro e w6 ⟨rfl, hb⟩
  have HL6 := Lib.hid (SlAt.below HL5.out hb)
  have HR6 := Lib.hid (SlAt.below HR5.out hb)
  have HB6 := Lib.hid (HB5.out.trans (hb.mono HB5.out.size))
  clear hb
  go_wp2_with fail
  refine (expire_any 149 _ [qA] (by simp) w6 HL6.out).mono ?_
  rw [show ([qA].filter fun q => decide ((149 : Int) < q.til)) = [qA] from rfl]
  rintro e w7 ⟨ev, rfl, hrow, hb⟩
  obtain ⟨eo, ecap, rfl⟩ := ownsRow_form hrow
  have HR7 := Lib.hid (SlAt.below HR6.out hb)
  have HB7 := Lib.hid (HB6.out.trans (hb.mono HB6.out.size))
  clear hrow hb
  obtain ⟨rb, roff, rfl, hrb, r0, r1, r2⟩ := QuAt.at3 HR7.out (k := 0) (by simp)
  obtain ⟨rb', roff', hro, _, s0, s1, s2⟩ := QuAt.at3 HR7.out (k := 1) (by simp)
  injection hro with hro
  injection hro with h1 h2
  subst h1
  subst h2
  simp only [Nat.zero_mul, Nat.one_mul, Nat.add_zero, List.getElem_cons_zero, List.getElem_cons_succ] at r0 r1 r2 s0 s1 s2
  go_wp2_with fail
  go_ret
  exact ⟨rfl, HB7.out⟩
end Go.Proofs.YthnodeicbicjcaaDoor
