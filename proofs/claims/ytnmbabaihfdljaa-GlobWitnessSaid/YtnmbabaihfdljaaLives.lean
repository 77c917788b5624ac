/- The walk over the law's lives. -/
import Derived.Test.YtnmbabaihfdljaaOver1
namespace Go.Proofs.Ytnmbabaihfdljaa
open Go.RowKit
open Bs

theorem ev_match1 : gmatchF [114, 101, 108, 101, 97, 115, 101, 47, 42] [114, 101, 108, 101, 97, 115, 101, 47, 49] = true := by decide +kernel
theorem ev_match2 : gmatchF [114, 101, 108, 101, 97, 115, 101, 47, 42] [114, 101, 108, 101, 97, 115, 101, 47, 49, 47, 97] = false := by decide +kernel
theorem ev_valid : validF [91, 99, 45, 97, 93] = 5 := by decide +kernel
theorem ev_lit : literalF [97, 98, 99] = ([97, 98, 99], true) := by decide +kernel
theorem ev_any : ganyTo [⟨#[42, 42]⟩, ⟨#[33, 100, 111, 99, 47, 42, 42]⟩] [120] 2 = true := by decide +kernel

def elA : List El := (els [97, 42, 99]).getD []
def elB : List El := (els [42, 98, 42]).getD []
theorem ev_elA : els [97, 42, 99] = some elA := by
  unfold elA
  cases h : els [97, 42, 99] with
  | none => exact absurd h (by have : (els [97, 42, 99]).isSome = true := by decide +kernel
                               intro e; rw [e] at this; cases this)
  | some L => rfl
theorem ev_elB : els [42, 98, 42] = some elB := by
  unfold elB
  cases h : els [42, 98, 42] with
  | none => exact absurd h (by have : (els [42, 98, 42]).isSome = true := by decide +kernel
                               intro e; rw [e] at this; cases this)
  | some L => rfl

theorem ev_over : Reach (absE elA) (absE elB) (elA.length, elB.length) := by
  have e : (elA.length, elB.length) = (3, 3) := by decide +kernel
  rw [e]
  have h1 : Reach (absE elA) (absE elB) (1, 0) := (Reach.zero _ _).step (by decide +kernel)
  have h2 : Reach (absE elA) (absE elB) (1, 1) := h1.step (by decide +kernel)
  have h3 : Reach (absE elA) (absE elB) (1, 2) := h2.step (by decide +kernel)
  have h4 : Reach (absE elA) (absE elB) (2, 2) := h3.step (by decide +kernel)
  have h5 : Reach (absE elA) (absE elB) (3, 2) := h4.step (by decide +kernel)
  exact h5.step (by decide +kernel)

theorem over_yes (w : World) : Calls Try.prog 19 #[.string ⟨#[97, 42, 99]⟩, .string ⟨#[42, 98, 42]⟩] w fun e w' => e = .returned (.bool true) ∧ Below w.heap.size w w' := by
  refine (over_any _ _ (by decide) (by decide) w).mono ?_
  rintro e w' ⟨r, rfl, hb, h⟩
  rw [if_neg (by decide)] at h
  rw [ev_elA, ev_elB] at h
  rw [h.2 ev_over]
  exact ⟨rfl, hb⟩

set_option maxRecDepth 100000 in
set_option maxHeartbeats 800000 in
theorem lives_any (w : World) : Calls Try.prog 10 #[] w fun e w' => e = .returned (.bool true) ∧ Below w.heap.size w w' := by
  go_enter Try.func10, Try.ntmps10
  go_wp2_with fail
  refine (literal_walk ⟨#[97, 98, 99]⟩ (by decide) w).mono ?_
  rintro e w1 ⟨q, rfl, hq, hb⟩
  rw [show literalF (⟨#[97, 98, 99]⟩ : ByteArray).data.toList = ([97, 98, 99], true) from ev_lit] at hq ⊢
  obtain rfl : q = ⟨#[97, 98, 99]⟩ := by rw [← Lib.mk_data q, hq]
  have HB := Lib.hid hb
  clear hb hq
  go_wp2_with fail
  refine (gmatch_any ⟨#[114, 101, 108, 101, 97, 115, 101, 47, 42]⟩ ⟨#[114, 101, 108, 101, 97, 115, 101, 47, 49]⟩ (by decide) (by decide) _).mono ?_
  rintro e w2 ⟨rfl, hb⟩
  rw [show gmatchF (⟨#[114, 101, 108, 101, 97, 115, 101, 47, 42]⟩ : ByteArray).data.toList (⟨#[114, 101, 108, 101, 97, 115, 101, 47, 49]⟩ : ByteArray).data.toList = true from ev_match1]
  have HB := Lib.hid (HB.out.trans (hb.mono HB.out.size))
  clear hb
  go_wp2_with fail
  refine (gmatch_any ⟨#[114, 101, 108, 101, 97, 115, 101, 47, 42]⟩ ⟨#[114, 101, 108, 101, 97, 115, 101, 47, 49, 47, 97]⟩ (by decide) (by decide) _).mono ?_
  rintro e w3 ⟨rfl, hb⟩
  rw [show gmatchF (⟨#[114, 101, 108, 101, 97, 115, 101, 47, 42]⟩ : ByteArray).data.toList (⟨#[114, 101, 108, 101, 97, 115, 101, 47, 49, 47, 97]⟩ : ByteArray).data.toList = false from ev_match2]
  have HB := Lib.hid (HB.out.trans (hb.mono HB.out.size))
  clear hb
  go_wp2_with fail
  refine (valid_any ⟨#[91, 99, 45, 97, 93]⟩ (by decide) _).mono ?_
  rintro e w4 ⟨rfl, hb⟩
  rw [show validF (⟨#[91, 99, 45, 97, 93]⟩ : ByteArray).data.toList = 5 from ev_valid]
  have HB := Lib.hid (HB.out.trans (hb.mono HB.out.size))
  have hz := HB.out.size
  clear hb
  go_wp2_with fail
  refine (gany_any [⟨#[42, 42]⟩, ⟨#[33, 100, 111, 99, 47, 42, 42]⟩] _ ⟨#[120]⟩ (by decide) (by decide) (by decide) _ (.inr ⟨w4.heap.size, 0, 2, rfl, by simp, ?_⟩)).mono ?_
  · intro i hi
    have hb := cell_of_blk (hp_new (w := w4) (o := .cells #[.string ⟨#[42, 42]⟩, .string ⟨#[33, 100, 111, 99, 47, 42, 42]⟩] 9) rfl)
    simp at hi
    have : i = 0 ∨ i = 1 := by omega
    rcases this with rfl | rfl
    · exact hb 0
    · exact hb 1
  · rintro e w5 ⟨rfl, hb⟩
    rw [show ganyTo [⟨#[42, 42]⟩, ⟨#[33, 100, 111, 99, 47, 42, 42]⟩] (⟨#[120]⟩ : ByteArray).data.toList ([⟨#[42, 42]⟩, ⟨#[33, 100, 111, 99, 47, 42, 42]⟩] : List ByteArray).length = true from ev_any]
    have HB := Lib.hid ((HB.out.alloc hz _).trans (hb.mono (by simp; omega)))
    clear hb
    go_wp2_with fail
    refine (over_yes _).mono ?_
    rintro e w6 ⟨rfl, hb⟩
    have HB := Lib.hid (HB.out.trans (hb.mono HB.out.size))
    clear hb
    go_wp2
    go_ret
    exact ⟨rfl, HB.out⟩
end Go.Proofs.Ytnmbabaihfdljaa
