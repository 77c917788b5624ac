/- The walk over the reference's common. -/
import Derived.Test.YtnmbabaihfdljaaRef5
import Derived.Test.YtnmbabaihfdljaaGraph
namespace Go.Proofs.Ytnmbabaihfdljaa
open Go.RowKit
open Bs

def CommonPost (E F : RE) (w : World) (e : Ending) (w' : World) : Prop :=
  ∃ (c : Nat) (ok : Bool), e = .returned (.tuple #[.int .u8 (c : Nat), .bool ok]) ∧ c < 256 ∧ (ok = true → E.fits c = true ∧ F.fits c = true) ∧ (ok = false → meetA E.abs F.abs = false) ∧ Below w.heap.size w w'

def CommonRel (w1 : World) (E F : RE) (f : Nat) (t6 : Value) (wr : World) : Prop :=
  ∃ k : Nat, t6 = .int .i64 ((k : Nat) - 1 : Int) ∧ k ≤ 256 ∧ f = k ∧ (∀ c, k ≤ c → c < 256 → (E.fits c && F.fits c) = false) ∧ Below w1.heap.size w1 wr

set_option maxRecDepth 100000 in
set_option maxHeartbeats 1600000 in
theorem common_any (E F : RE) (sv tv : Value) (base : Nat) (w : World) (hE : w.ownsRow base 53 2 sv E.items.length (flatI E.items)) (hF : w.ownsRow base 53 2 tv F.items.length (flatI F.items))
    (hEl : E.items.length ≤ 4096) (hFl : F.items.length ≤ 4096) :
    Calls Try.prog 36 #[.agg #[.int .i64 (E.kind : Nat), sv], .agg #[.int .i64 (F.kind : Nat), tv]] w (CommonPost E F w) := by
  have HE := Lib.hid hE
  have HF := Lib.hid hF
  clear hE hF
  go_enter Try.func36, Try.ntmps36
  go_wp2_with fail
  refine (show ∀ w1 : World, Below w.heap.size w w1 → w1.heap[w.heap.size]? = some (.cells #[.int .i64 (E.kind : Nat), sv] 52) → w1.heap[w.heap.size + 1]? = some (.cells #[.int .i64 (F.kind : Nat), tv] 52) → Code.wp Try.prog _ _ _ w1 from ?_) _ ?_ ?_ ?_
  rotate_left
  · exact ((Below.refl _ _).alloc (Nat.le_refl _) _).alloc (by simp) _
  · exact (hp_old (by simp)).trans (hp_new rfl)
  · exact hp_new (by simp)
  · intro w1 hb1 hA hB
    have HB1 := Lib.hid hb1
    have HA := Lib.hid hA
    have HB := Lib.hid hB
    have hz1 := (Array.getElem?_eq_some_iff.1 hB).1
    clear hb1 hA hB
    go_loopg [6] 256 (CommonRel w1 E F)
    case atStart => exact ⟨256, rfl, Nat.le_refl _, rfl, fun c h1 h2 => by omega, Below.refl _ _⟩
    case round =>
      obtain ⟨k, rfl, hk, rfl, hno, hbel⟩ := hrel
      have HNO := Lib.hid hno
      have HBel := Lib.hid hbel
      clear hno hbel
      cases gk with
      | zero =>
        have hme : meetA E.abs F.abs = false := by
          cases h : meetA E.abs F.abs with
          | false => rfl
          | true =>
            unfold meetA at h
            rw [List.any_eq_true] at h
            obtain ⟨c, hc, h⟩ := h
            have := HNO.out c (by omega) (by simpa using hc)
            exact absurd h (by rw [show (E.abs.2 c && F.abs.2 c) = (E.fits c && F.fits c) from rfl, this]; simp)
        have HME := Lib.hid hme
        clear hme
        go_wp2
        go_ret2
        exact ⟨0, false, rfl, by omega, (by simp), (fun _ => HME.out), HB1.out.trans (HBel.out.mono (by omega))⟩
      | succ i =>
        have hi0 : (((i + 1 : Nat) : Int) - 1) = (i : Int) := by omega
        rw [hi0]
        clear hi0
        have hi : i < 256 := by omega
        have a0 : wr.cell? ⟨w.heap.size, 0, none⟩ = some (.int .i64 (E.kind : Nat)) := by rw [HBel.out.cell (p := ⟨w.heap.size, 0, none⟩) (by simp; omega), cell_of_blk HA.out]; rfl
        have a1 : wr.cell? ⟨w.heap.size, 1, none⟩ = some sv := by rw [HBel.out.cell (p := ⟨w.heap.size, 1, none⟩) (by simp; omega), cell_of_blk HA.out]; rfl
        have b0 : wr.cell? ⟨w.heap.size + 1, 0, none⟩ = some (.int .i64 (F.kind : Nat)) := by rw [HBel.out.cell (p := ⟨w.heap.size + 1, 0, none⟩) (by simp; omega), cell_of_blk HB.out]; rfl
        have b1 : wr.cell? ⟨w.heap.size + 1, 1, none⟩ = some tv := by rw [HBel.out.cell (p := ⟨w.heap.size + 1, 1, none⟩) (by simp; omega), cell_of_blk HB.out]; rfl
        go_wp2_with fail
        refine (fits_any E sv base i hi wr (ownsRow_below (ownsRow_below HE.out HB1.out) (HBel.out.mono (by omega))) hEl).mono ?_
        rintro e w2 ⟨rfl, hb⟩
        have HB2 := Lib.hid (HBel.out.trans (hb.mono HBel.out.size))
        clear hb
        cases hfe : E.fits i with
        | false =>
          have HFE := Lib.hid hfe
          clear hfe
          go_wp2
          go_roundg i
          case measure => omega
          case rel =>
            refine ⟨i, by go_num, by omega, rfl, ?_, HB2.out⟩
            intro c h1 h2
            by_cases e : c = i
            · subst e; rw [HFE.out]; rfl
            · exact HNO.out c (by omega) h2
        | true =>
          have HFE := Lib.hid hfe
          clear hfe
          have b0 : w2.cell? ⟨w.heap.size + 1, 0, none⟩ = some (.int .i64 (F.kind : Nat)) := by rw [HB2.out.cell (p := ⟨w.heap.size + 1, 0, none⟩) (by simp; omega), cell_of_blk HB.out]; rfl
          have b1 : w2.cell? ⟨w.heap.size + 1, 1, none⟩ = some tv := by rw [HB2.out.cell (p := ⟨w.heap.size + 1, 1, none⟩) (by simp; omega), cell_of_blk HB.out]; rfl
          go_wp2_with fail
          refine (fits_any F tv base i hi w2 (ownsRow_below (ownsRow_below HF.out HB1.out) (HB2.out.mono (by omega))) hFl).mono ?_
          rintro e w3 ⟨rfl, hb⟩
          have HB3 := Lib.hid (HB2.out.trans (hb.mono HB2.out.size))
          clear hb
          cases hff : F.fits i with
          | false =>
            have HFF := Lib.hid hff
            clear hff
            go_wp2
            go_roundg i
            case measure => omega
            case rel =>
              refine ⟨i, by go_num, by omega, rfl, ?_, HB3.out⟩
              intro c h1 h2
              by_cases e : c = i
              · subst e; rw [HFF.out, Bool.and_false]
              · exact HNO.out c (by omega) h2
          | true =>
            have HFF := Lib.hid hff
            clear hff
            go_wp2
            go_ret2
            exact ⟨i, true, rfl, hi, (fun _ => ⟨HFE.out, HFF.out⟩), (by simp), HB1.out.trans (HB3.out.mono (by omega))⟩
end Go.Proofs.Ytnmbabaihfdljaa
