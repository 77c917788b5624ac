/- The walks over Expire and Same. -/
import Derived.Test.YthnodeicbicjcaaDoorQua3
namespace Go.Proofs.YthnodeicbicjcaaDoor
open Go.RowKit

set_option maxRecDepth 100000 in
set_option maxHeartbeats 800000 in
theorem expire_any (now : Int) (v : Value) (qs : List Qu) (hn : qs.length ≤ 1000000) (w : World) (h : QuAt w v qs) :
    Calls Tryd.prog 16 #[v, .int .i64 now] w (RowPost (qs.filter fun q => decide (now < q.til)) w) := by
  have H := Lib.hid h
  clear h
  have HB := Lib.hid ((Below.refl w.heap.size w).alloc (Nat.le_refl _) (.cells #[.int .i64 now] 3))
  have HC : Hid ((w.alloc (.cells #[.int .i64 now] 3)).cell? ⟨w.heap.size, 0, none⟩ = some (.int .i64 now)) := by
    unfold Hid; rw [cell_of_blk (hp_new rfl)]; rfl
  have HZ : Hid ((w.alloc (.cells #[.int .i64 now] 3)).heap.size = w.heap.size + 1) := by unfold Hid; simp
  go_enter Tryd.func16, Tryd.ntmps16
  go_wp2_with fail
  generalize w.alloc (.cells #[.int .i64 now] 3) = w1 at *
  refine (kept_any _ now v qs hn w1 (SlAt.below H.out HB.out) (by have := HZ.out; omega) HC.out).mono ?_
  rintro e w2 ⟨v', rfl, hrow, hb⟩
  have HR := Lib.hid (show QuRow w2 w.heap.size v' _ from ownsRow_base hrow (by have := HZ.out; omega))
  have HB2 := Lib.hid (HB.out.trans (hb.mono HB.out.size))
  clear hrow hb
  go_wp2_with fail
  go_ret
  exact ⟨_, rfl, HR.out, HB2.out⟩

def RExpRel (w1 : World) (p : Qu → Bool) (qs : List Qu) (f : Nat) (t5 t6 : Value) (wr : World) : Prop :=
  ∃ k : Nat, t6 = .int .i64 (k : Nat) ∧ k ≤ qs.length ∧ f = qs.length - k ∧ QuRow wr w1.heap.size t5 ((qs.take k).filter p) ∧ Below w1.heap.size w1 wr

set_option maxRecDepth 100000 in
set_option maxHeartbeats 800000 in
theorem rexpire_any (now : Int) (v : Value) (qs : List Qu) (hn : qs.length ≤ 1000000) (w : World) (h : QuAt w v qs) :
    Calls Tryd.prog 17 #[v, .int .i64 now] w (RowPost (qs.filter fun q => decide (now < q.til)) w) := by
  obtain ⟨ao, cap, rfl⟩ := h.form
  obtain ⟨i48, hi48⟩ := Tryd.info48'
  have HI := Lib.hid hi48
  have H := Lib.hid h
  clear h hi48
  go_enter Tryd.func17, Tryd.ntmps17
  go_wp2_with fail
  go_loopg [5, 6] qs.length (RExpRel w (fun q => decide (now < q.til)) qs)
  case atStart => exact ⟨0, rfl, Nat.zero_le _, rfl, World.ownsRow_nil _ _ _ _, Below.refl _ _⟩
  case round =>
    obtain ⟨k, rfl, hk, rfl, hrow, hbel⟩ := hrel
    obtain ⟨ro, rcap, rfl⟩ := ownsRow_form hrow
    have HR := Lib.hid (show wr.ownsRow w.heap.size 48 3 _ _ _ from hrow)
    have HB := Lib.hid hbel
    have hfl : ((qs.take k).filter fun q => decide (now < q.til)).length ≤ qs.length := Nat.le_trans (List.length_filter_le _ _) (List.length_take_le' _ _)
    clear hrow hbel
    by_cases hlt : k < qs.length
    · obtain ⟨b, off, rfl, hbl, c0, c1, c2⟩ := QuAt.at3 (SlAt.below H.out HB.out) hlt
      have hii : (k : Int) < (qs.length : Int) := by omega
      have HHIT := Lib.hid (fun h => filter_snoc (p := fun q => decide (now < q.til)) hlt h)
      have HSN := Lib.hid (fun h => filter_skip (p := fun q => decide (now < q.til)) hlt h)
      generalize qs[k] = q at *
      have hzr := HB.out.size
      cases hp : decide (now < q.til) with
      | true =>
        have ht : now < q.til := by simpa using hp
        have HF := Lib.hid (HHIT.out hp)
        clear hp
        go_wp2_with (at_builtin; refine wpList_append2 rfl _ _ 22 rfl w.heap.size 48 i48 (.agg #[.string ByteArray.empty, .int .i64 0, .int .i64 0]) 3 32 Tryd.underlying22 HI.out rfl (by decide) _ _ _ rfl (HR.out.alloc _) ⟨wr.heap.size, 0, none⟩ 1 1 q.cells rfl rfl (cells_newAt rfl _ 48 (0, 0)) rfl (by unfold maxLen; omega) (by omega) (by have := HB.out.size; simp; omega) ?_)
        intro v' w3 hown hgrow hwh
        obtain ⟨ao', cap', rfl⟩ := ownsRow_form hown
        have HOWN := Lib.hid hown
        have HBG := Lib.hid ((HB.out.alloc HB.out.size _).grown hgrow (by have := HB.out.size; simp; omega) (fun j hj => (HR.out.lt j hj).1))
        clear hown hgrow hwh
        go_wp2_with fail
        go_roundg (qs.length - (k + 1))
        case measure => omega
        case rel =>
          refine ⟨k + 1, by go_num, by omega, rfl, ?_, HBG.out⟩
          rw [HF.out]
          have := HOWN.out
          unfold QuRow
          rw [List.length_append, List.flatMap_append]
          simpa using this
      | false =>
        have HF := Lib.hid (HSN.out hp)
        go_wp2_with fail
        go_roundg (qs.length - (k + 1))
        case measure => omega
        case rel =>
          refine ⟨k + 1, by go_num, by omega, rfl, ?_, HB.out⟩
          rw [HF.out]
          exact HR.out
    · have hk' : k = qs.length := by omega
      subst hk'
      go_wp2_with fail
      go_ret
      exact ⟨_, rfl, by have := HR.out; rw [List.take_length] at *; exact this, HB.out⟩

def SameRel (w1 : World) (xs : List Qu) (f : Nat) (t5 : Value) (wr : World) : Prop :=
  ∃ k : Nat, t5 = .int .i64 (k : Nat) ∧ k ≤ xs.length ∧ f = xs.length - k ∧ Below w1.heap.size w1 wr

set_option maxRecDepth 100000 in
set_option maxHeartbeats 800000 in
/-- a list is the same as itself -/
theorem same_any (v u : Value) (qs : List Qu) (hn : qs.length ≤ 1000000) (w : World) (h : QuAt w v qs) (h2 : QuAt w u qs) :
    Calls Tryd.prog 13 #[v, u] w fun e w' => e = .returned (.bool true) ∧ Below w.heap.size w w' := by
  obtain ⟨ao, cap, rfl⟩ := h.form
  obtain ⟨bo, bcap, rfl⟩ := h2.form
  have H := Lib.hid h
  have H2 := Lib.hid h2
  clear h h2
  go_enter Tryd.func13, Tryd.ntmps13
  go_wp2_with fail
  go_loopg [5] qs.length (SameRel w qs)
  case atStart => exact ⟨0, rfl, Nat.zero_le _, rfl, Below.refl _ _⟩
  case round =>
    obtain ⟨k, rfl, hk, rfl, hbel⟩ := hrel
    have HB := Lib.hid hbel
    clear hbel
    by_cases hlt : k < qs.length
    · obtain ⟨b, off, rfl, hbl, c0, c1, c2⟩ := QuAt.at3 (SlAt.below H.out HB.out) hlt
      obtain ⟨b', off', rfl, hbl', d0, d1, d2⟩ := QuAt.at3 (SlAt.below H2.out HB.out) hlt
      have hii : (k : Int) < (qs.length : Int) := by omega
      generalize qs[k] = q at *
      go_wp2_with fail
      go_region
      go_wp2
      go_roundg (qs.length - (k + 1))
      case measure => omega
      case rel => exact ⟨k + 1, by go_num, by omega, rfl, HB.out.drew⟩
    · have hii : ¬ (k : Int) < (qs.length : Int) := by omega
      go_wp2_with fail
      go_ret
      exact ⟨rfl, HB.out⟩

end Go.Proofs.YthnodeicbicjcaaDoor
