/- The walk over the law Updates. -/
import Derived.Test.YthnodeicbicjcaaDoorQlaws
import Derived.Deep.RegionHeld3
namespace Go.Proofs.YthnodeicbicjcaaDoor
open Go.RowKit

abbrev SS (w : World) (now len : Int) (W : World) : Prop := W.cell? ⟨w.heap.size, 0, none⟩ = some (.int .i64 now) ∧ W.cell? ⟨w.heap.size, 1, none⟩ = some (.int .i64 len) ∧ w.heap.size < W.heap.size ∧ Below w.heap.size w W
theorem keepS {w W w2 : World} {now len : Int} (h : SS w now len W) (hb : Below W.heap.size W w2) : SS w now len w2 := by
  obtain ⟨h0, h1, h2, h3⟩ := h
  exact ⟨(hb.cell (p := ⟨w.heap.size, 0, none⟩) h2).trans h0, (hb.cell (p := ⟨w.heap.size, 1, none⟩) h2).trans h1, Nat.lt_of_lt_of_le h2 hb.size, h3.trans (hb.mono h3.size)⟩

def UpS (w : World) (now len : Int) (x : List Qu) (W : World) (e : Ending) (w' : World) : Prop := ∃ v, e = .returned v ∧ QuAt w' v x ∧ Below W.heap.size W w' ∧ SS w now len w'

set_option maxRecDepth 100000 in
set_option maxHeartbeats 1600000 in
theorem updates_law (v u : Value) (qs : List Qu) (es : List Ev) (now len m : Int) (w : World) (h : QuAt w v qs) (h2 : EvAt w u es) (hm : w.cell? ⟨0, 0, none⟩ = some (.int .i64 m)) (hg : 0 < w.heap.size) :
    Calls Tryd.prog 6 #[v, u, .agg #[.int .i64 now, .int .i64 len]] w (LawPost w) := by
  have LV := Lib.hid (lives_at hm hg)
  obtain ⟨uo, ucap, rfl⟩ := h2.form
  have H := Lib.hid h
  have H2 := Lib.hid h2
  have HM := Lib.hid hm
  clear h h2 hm
  have HB0 := Lib.hid ((Below.refl w.heap.size w).alloc (Nat.le_refl _) (.cells #[.int .i64 now, .int .i64 len] 23))
  have HK0 : Hid ((w.alloc (.cells #[.int .i64 now, .int .i64 len] 23)).heap[w.heap.size]? = some (.cells #[.int .i64 now, .int .i64 len] 23)) := hp_new rfl
  have hk0 : (w.alloc (.cells #[.int .i64 now, .int .i64 len] 23)).cell? ⟨w.heap.size, 0, none⟩ = some (.int .i64 now) := by rw [cell_of_blk HK0.out]; rfl
  have hk1 : (w.alloc (.cells #[.int .i64 now, .int .i64 len] 23)).cell? ⟨w.heap.size, 1, none⟩ = some (.int .i64 len) := by rw [cell_of_blk HK0.out]; rfl
  go_enter Tryd.func6, Tryd.ntmps6
  go_wp2_with fail
  generalize w.alloc (.cells #[.int .i64 now, .int .i64 len] 23) = w0 at *
  refine (few_any v qs w0 (SlAt.below H.out HB0.out)).mono ?_
  rintro e w1 ⟨rfl, rfl⟩
  cases hf : fewF qs with
  | false =>
    clear hf
    go_wp2_with fail
    refine (LV.out _ HB0.out).mono ?_
    rintro e w9 ⟨rfl, hb⟩
    have HB := Lib.hid hb
    clear hb
    go_wp2_with fail
    go_ret
    exact ⟨rfl, HB.out⟩
  | true =>
    have hl := fewF_len hf
    clear hf
    by_cases hs : 60 < es.length
    · have hsi : (60 : Int) < (es.length : Int) := by omega
      go_wp2_with fail
      refine (LV.out _ HB0.out).mono ?_
      rintro e w9 ⟨rfl, hb⟩
      have HB := Lib.hid hb
      clear hb
      go_wp2_with fail
      go_ret
      exact ⟨rfl, HB.out⟩
    · have hsi : decide ((60 : Int) < (es.length : Int)) = false := by simp; omega
      have HES : Hid (es.length ≤ 60) := by unfold Hid; omega
      have hzz : w.heap.size < w1.heap.size := (Array.getElem?_eq_some_iff.1 HK0.out).1
      have hb0 := HB0.out
      have hal := upTo_len qs (flakF es es.length) now len (flakF es es.length).length
      have hfl := flakF_len es es.length
      generalize hx : upTo qs (flakF es es.length) now len (flakF es es.length).length = x at *
      have HX := Lib.hid hx
      clear hx
      have UPDA : Hid (∀ W, SS w now len W → Calls Tryd.prog 21 #[v, .slice uo es.length ucap, .int .i64 now, .int .i64 len] W (UpS w now len x W)) := fun W hS =>
        (update_any v _ qs es (by omega) (by have := HES.out; omega) now len m W (SlAt.below H.out hS.2.2.2) (SlAt.below H2.out hS.2.2.2) ((hS.2.2.2.cell (p := ⟨0, 0, none⟩) hg).trans HM.out) (Nat.lt_of_lt_of_le hg hS.2.2.2.size)).mono (by rw [HX.out]; rintro e w' ⟨v1, rfl, hq, hb⟩; exact ⟨v1, rfl, hq, hb, keepS hS hb⟩)
      have RUPDA : Hid (∀ W, SS w now len W → Calls Tryd.prog 22 #[v, .slice uo es.length ucap, .int .i64 now, .int .i64 len] W (UpS w now len x W)) := fun W hS =>
        (rupdate_any v _ qs es (by omega) (by have := HES.out; omega) now len W (SlAt.below H.out hS.2.2.2) (SlAt.below H2.out hS.2.2.2)).mono (by rw [HX.out]; rintro e w' ⟨v1, rfl, hq, hb⟩; exact ⟨v1, rfl, hq, hb, keepS hS hb⟩)
      have SAMA : Hid (∀ v1 v2 W, QuAt W v1 x → QuAt W v2 x → SS w now len W → Calls Tryd.prog 13 #[v1, v2] W fun e w' => e = .returned (.bool true) ∧ SS w now len w') := fun v1 v2 W h1 h2 hS =>
        (same_any v1 v2 x (by have := HES.out; omega) W h1 h2).mono (by rintro e w' ⟨rfl, hb⟩; exact ⟨rfl, keepS hS hb⟩)
      have LIVA : Hid (∀ W, SS w now len W → Calls Tryd.prog 10 #[] W fun e w' => e = .returned (.bool true) ∧ SS w now len w') := fun W hS =>
        (lives_any m W ((hS.2.2.2.cell (p := ⟨0, 0, none⟩) hg).trans HM.out) (Nat.lt_of_lt_of_le hg hS.2.2.2.size)).mono (by rintro e w' ⟨rfl, hb⟩; exact ⟨rfl, keepS hS hb⟩)
      go_wp2_with fail
      go_region_held3 (fun w' => w'.cell? ⟨w.heap.size, 0, none⟩ = some (.int .i64 now) ∧ w'.cell? ⟨w.heap.size, 1, none⟩ = some (.int .i64 len) ∧ w.heap.size < w'.heap.size ∧ Below w.heap.size w w') (first | exact ⟨hk0, hk1, hzz, hb0.drew⟩ | exact hSD | exact hSC | exact hSB | exact hSA | go_keep)
        (first
          | (go_at_call 21; refine (UPDA.out _ (by assumption)).mono ?_; rintro e wA ⟨v1, rfl, hq1, hbA, hSA⟩)
          | (go_at_call 22; refine (RUPDA.out _ (by assumption)).mono ?_; rintro e wB ⟨v2, rfl, hq2, hbB, hSB⟩)
          | (go_at_call 13; refine (SAMA.out v1 v2 _ (SlAt.below hq1 hbB) hq2 (by assumption)).mono ?_; rintro e wC ⟨rfl, hSC⟩)
          | (go_at_call 10; refine (LIVA.out _ (by assumption)).mono ?_; rintro e wD ⟨rfl, hSD⟩))
      go_wp2
      go_ret
      exact ⟨rfl, hSD.2.2.2⟩
end Go.Proofs.YthnodeicbicjcaaDoor
