/- The walk over the reference's Ascending. -/
import Derived.Test.YtlpglabhjbfjgaaDoorNw7
namespace Go.Proofs.YtlpglabhjbfjgaaDoor
open Go.RowKit

def RAscRel (w1 : World) (ss : List ByteArray) (f : Nat) (t3 : Value) (wr : World) : Prop :=
  ∃ i : Nat, t3 = .int .i64 (i : Nat) ∧ 1 ≤ i ∧ i ≤ ss.length + 1 ∧ f = ss.length + 1 - i ∧ allR (ascP ss) i = true ∧ Below w1.heap.size w1 wr

set_option maxRecDepth 100000 in
set_option maxHeartbeats 1600000 in
theorem rascending_any (v : Value) (ss : List ByteArray) (hl : ss.length ≤ 1000000) (hsz : ∀ s ∈ ss, s.size ≤ 9223372036854775807) (w : World) (h : StrsAt w v ss) : Calls Tryd.prog 28 #[v] w fun e w' => e = .returned (.bool (ascF (datas ss))) ∧ Below w.heap.size w w' := by
  obtain ⟨ao, cap, rfl⟩ := h.form
  have H := Lib.hid h
  have HSZ : Hid (∀ j, j < ss.length → (ss.getD j ByteArray.empty).size ≤ 9223372036854775807) := fun j hj => by
    rw [List.getD, List.getElem?_eq_getElem hj]; exact hsz _ (List.getElem_mem hj)
  have HP := Lib.hid (ascP_F ss)
  clear h hsz
  go_enter Tryd.func28, Tryd.ntmps28
  go_wp2_with fail
  go_loopg [3] ss.length (RAscRel w ss)
  case atStart => exact ⟨1, rfl, Nat.le_refl _, by omega, by omega, by unfold allR ascP; simp, Below.refl _ _⟩
  case round =>
    obtain ⟨i, rfl, hi1, hi2, rfl, hall, hbel⟩ := hrel
    have HALL := Lib.hid hall
    have HB := Lib.hid hbel
    clear hall hbel
    by_cases hlt : i < ss.length
    · obtain ⟨b, off, rfl, hbl, hc⟩ := (H.out.below HB.out).at_ (show i - 1 < ss.length by omega)
      obtain ⟨b2, off2, e, _, hc2⟩ := (H.out.below HB.out).at_ hlt
      injection e with e
      injection e with e1 e2
      subst e1 e2
      have CM := fun W => Lib.hid (rcompare_any (ss.getD (i - 1) ByteArray.empty) (ss.getD i ByteArray.empty) (HSZ.out (i - 1) (by omega)) (HSZ.out i hlt) W)
      have HK : Hid (ascP ss i = decide (natC (ss.getD (i - 1) ByteArray.empty).data.toList (ss.getD i ByteArray.empty).data.toList < 0)) := by
        unfold Hid ascP
        rw [decide_eq_false (by omega : ¬ i = 0)]; rfl
      have HAS := Lib.hid (allR_succ (ascP ss) i)
      have HAN := Lib.hid (fun h => allR_no (f := ascP ss) (k := i) (n := ss.length) h hlt)
      rw [HP.out] at HAN
      have hii : (i : Int) < (ss.length : Int) := by omega
      have hi0 : (i : Int) - 1 < (ss.length : Int) := by omega
      have hi3 : (1 : Int) ≤ (i : Int) := by omega
      have q1 : IntKind.i64.wrap ((i : Int) - 1) = (i : Int) - 1 := IntWalk.i64_in _ (by omega)
      have q2 : (0 : Int) ≤ (i : Int) - 1 := by omega
      have q3 : ((i : Int) - 1).toNat = i - 1 := by omega
      generalize ss.getD (i - 1) ByteArray.empty = x at *
      generalize ss.getD i ByteArray.empty = y at *
      have hb0 := Up.refl wr
      have CM2 : Hid (∀ W, Up wr W → Calls Tryd.prog 24 #[.string x, .string y] W fun e w' => e = .returned (.int .i64 (natC x.data.toList y.data.toList)) ∧ Up wr w') := fun W hW => (CM W).out.mono (by
        rintro e w' ⟨he, hu⟩; exact ⟨he, hW.trans hu⟩)
      clear CM
      go_upto_region 4 with fail
      go_still_tail 9, (by kernel_rfl)
      change wpList _ _ _ _ _ (World.drew _)
      go_wp2_with fail
      refine (CM2.out _ hb0.drew).mono ?_
      rintro e w5 ⟨rfl, hu⟩
      have HB5 := Lib.hid (HB.out.trans (hu.b.mono HB.out.size))
      clear hu
      generalize natC x.data.toList y.data.toList = q at *
      by_cases hq : q < 0
      · have HF : Hid (allR (ascP ss) (i + 1) = true) := by unfold Hid; rw [HAS.out, HALL.out, HK.out, decide_eq_true hq]; rfl
        have t1 : ¬ (0 : Int) ≤ q := by omega
        clear HAN HK
        as_aux_lemma =>
        go_wp2_with fail
        go_roundg (ss.length + 1 - (i + 1))
        case measure => omega
        case rel => exact ⟨i + 1, by go_num, by omega, by omega, rfl, HF.out, HB5.out⟩
      · have HF : Hid (ascF (datas ss) = false) := HAN.out (by rw [HK.out, decide_eq_false hq])
        have t1 : (0 : Int) ≤ q := by omega
        clear HAN HK
        as_aux_lemma =>
        go_wp2_with fail
        go_ret
        exact ⟨by rw [HF.out]; rfl, HB5.out⟩
    · have hii : ¬ (i : Int) < (ss.length : Int) := by omega
      have HF : Hid (ascF (datas ss) = true) := by
        unfold Hid
        rw [← HP.out]
        unfold allR
        rw [List.all_eq_true]
        intro j hj
        rw [List.mem_range] at hj
        have := HALL.out
        unfold allR at this
        exact List.all_eq_true.1 this j (List.mem_range.2 (by omega))
      go_wp2_with fail
      go_ret
      exact ⟨by rw [HF.out]; rfl, HB.out⟩
end Go.Proofs.YtlpglabhjbfjgaaDoor
