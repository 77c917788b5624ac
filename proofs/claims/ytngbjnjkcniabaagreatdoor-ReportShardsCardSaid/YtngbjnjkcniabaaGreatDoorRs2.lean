/- The walk over the reference's Same of lists of strings. -/
import Derived.Test.YtngbjnjkcniabaaGreatDoorRs1
namespace Go.Proofs.YtngbjnjkcniabaaGreatDoor
open Go.RowKit

theorem tl_eqR (x y : ByteArray) : (x.toList == y.toList) = decide (x.data.toList = y.data.toList) := by
  rw [Lib.toList_data, Lib.toList_data, Bool.eq_iff_iff, beq_iff_eq, decide_eq_true_eq]
abbrev dts (ss : List ByteArray) : List Bs := ss.map (·.data.toList)
theorem data_inj {x y : ByteArray} (h : x.data.toList = y.data.toList) : x = y := by
  rw [← Lib.mk_data x, h, Lib.mk_data]
theorem dts_at (ss : List ByteArray) {k : Nat} (hk : k < ss.length) : (dts ss)[k]? = some (ss.getD k ByteArray.empty).data.toList := by
  rw [List.getElem?_map, List.getElem?_eq_getElem hk, List.getD, List.getElem?_eq_getElem hk]; rfl

/-- the index of a name, or -1 -/
def sameTo (xs ys : List ByteArray) (k : Nat) : Prop := ∀ j, j < k → xs.getD j ByteArray.empty = ys.getD j ByteArray.empty
theorem sameTo_all {xs ys : List ByteArray} (hl : xs.length = ys.length) : sameTo xs ys xs.length ↔ xs = ys := by
  constructor
  · intro h
    apply List.ext_getElem hl
    intro i h1 h2
    have := h i h1
    rw [List.getD, List.getD, List.getElem?_eq_getElem h1, List.getElem?_eq_getElem h2] at this
    exact this
  · rintro rfl j _; rfl
def SameRel (w1 : World) (xs ys : List ByteArray) (f : Nat) (t5 : Value) (wr : World) : Prop :=
  ∃ k : Nat, t5 = .int .i64 (k : Nat) ∧ k ≤ xs.length ∧ f = xs.length - k ∧ sameTo xs ys k ∧ Below w1.heap.size w1 wr
set_option maxRecDepth 100000 in
set_option maxHeartbeats 1600000 in
theorem same18_any (u v : Value) (xs ys : List ByteArray) (hl : xs.length ≤ 1000000) (w : World) (h : StrsAt w u xs) (k : StrsAt w v ys) : Calls Tryz.prog 20 #[u, v] w fun e w' => e = .returned (.bool (decide (xs = ys))) ∧ Below w.heap.size w w' := by
  obtain ⟨ao, cap, rfl⟩ := h.form
  obtain ⟨bo, cbp, rfl⟩ := k.form
  have H := Lib.hid h
  have K := Lib.hid k
  clear h k
  go_enter Tryz.func20, Tryz.ntmps20
  by_cases hne : xs.length = ys.length
  · have t1 : ((xs.length : Int) != (ys.length : Int)) = false := by simp; omega
    have HSA := Lib.hid (sameTo_all hne)
    go_wp2_with fail
    go_loopg [5] xs.length (SameRel w xs ys)
    case atStart => exact ⟨0, rfl, Nat.zero_le _, rfl, fun j hj => by omega, Below.refl _ _⟩
    case round =>
      obtain ⟨k, rfl, hk, rfl, hall, hbel⟩ := hrel
      have HALL := Lib.hid hall
      have HB := Lib.hid hbel
      clear hall hbel
      by_cases hlt : k < xs.length
      · obtain ⟨b, off, rfl, hbl, hc⟩ := (H.out.below HB.out).at_ hlt
        obtain ⟨b2, off2, rfl, hbl2, hc2⟩ := (K.out.below HB.out).at_ (show k < ys.length by omega)
        have hii : (k : Int) < (xs.length : Int) := by omega
        have hjj : (k : Int) < (ys.length : Int) := by omega
        have HK : Hid (xs.getD k ByteArray.empty = ys.getD k ByteArray.empty → sameTo xs ys (k + 1)) := fun h j hj => by
          by_cases e : j = k
          · subst e; exact h
          · exact HALL.out j (by omega)
        have HK2 : Hid (¬ xs.getD k ByteArray.empty = ys.getD k ByteArray.empty → ¬ xs = ys) := fun h e => h (by rw [e])
        generalize xs.getD k ByteArray.empty = x at *
        generalize ys.getD k ByteArray.empty = y at *
        have hxy := tl_eq x y
        clear hne
        by_cases he : x = y
        · have HF := Lib.hid (HK.out he)
          have t2 : (!x.toList == y.toList) = false := by rw [hxy, decide_eq_true he]; rfl
          clear he HK HK2 hxy
          as_aux_lemma =>
          go_upto_region 6 with fail
          go_quiet (fail)
          go_wp2_with fail
          go_roundg (xs.length - (k + 1))
          case measure => omega
          case rel => exact ⟨k + 1, by go_num, by omega, rfl, HF.out, HB.out.trans ⟨rfl, rfl, rfl, Nat.le_refl _, fun _ _ => rfl⟩⟩
        · have HF := Lib.hid (HK2.out he)
          have t2 : (!x.toList == y.toList) = true := by rw [hxy, decide_eq_false he]; rfl
          clear he HK HK2 hxy
          as_aux_lemma =>
          go_upto_region 6 with fail
          go_quiet (fail)
          go_wp2_with fail
          go_ret
          exact ⟨by rw [decide_eq_false HF.out]; rfl, HB.out.trans ⟨rfl, rfl, rfl, Nat.le_refl _, fun _ _ => rfl⟩⟩
      · have he : k = xs.length := by omega
        subst he
        have HF := Lib.hid (HSA.out.1 HALL.out)
        clear hne
        go_wp2_with fail
        go_ret
        exact ⟨by rw [decide_eq_true HF.out]; rfl, HB.out⟩
  · have t1 : ((xs.length : Int) != (ys.length : Int)) = true := by rw [bne_iff_ne]; omega
    have HF : Hid (¬ xs = ys) := fun h => hne (by rw [h])
    clear hne
    go_wp2_with fail
    go_ret
    exact ⟨by rw [decide_eq_false HF.out]; rfl, Below.refl _ _⟩

theorem dts_eq {xs ys : List ByteArray} : xs = ys ↔ dts xs = dts ys := by
  constructor
  · rintro rfl; rfl
  · intro h
    have hl : xs.length = ys.length := by have := congrArg List.length h; simpa [dts] using this
    refine List.ext_getElem hl fun i h1 h2 => ?_
    have h3 : (dts xs)[i]? = (dts ys)[i]? := by rw [h]
    unfold dts at h3
    rw [List.getElem?_map, List.getElem?_map, List.getElem?_eq_getElem h1, List.getElem?_eq_getElem h2] at h3
    simp only [Option.map_some, Option.some.injEq] at h3
    exact data_inj h3
theorem rsame_any (u v : Value) (xs ys : List ByteArray) (hl : xs.length ≤ 1000000) (w : World) (h : StrsAt w u xs) (k : StrsAt w v ys) : Calls Tryz.prog 20 #[u, v] w fun e w' => e = .returned (.bool (decide (dts xs = dts ys))) ∧ Below w.heap.size w w' := by
  have h0 : decide (xs = ys) = decide (dts xs = dts ys) := decide_eq_decide.2 dts_eq
  rw [← h0]
  exact same18_any u v xs ys hl w h k
end Go.Proofs.YtngbjnjkcniabaaGreatDoor
