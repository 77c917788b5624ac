/- The walk over value.keyed. -/
import Derived.Test.YtomecnncighkgaaGreatDoorVa1
import Derived.Test.YtomecnncighkgaaGreatDoorNw2
namespace Go.Proofs.YtomecnncighkgaaGreatDoor
open Go.RowKit

/-- the key i of a list is fit, and behind the one before it -/
def keyAt (ks : List ByteArray) (i : Nat) : Bool := keyOk (ks.getD i ByteArray.empty) && (decide (i = 0) || decide (natC (ks.getD (i - 1) ByteArray.empty).data.toList (ks.getD i ByteArray.empty).data.toList < 0))
theorem keysTo_succ (ks : List ByteArray) (i : Nat) : keysTo ks (i + 1) = (keysTo ks i && keyAt ks i) := by
  unfold keysTo keyAt
  rw [List.range_succ, List.all_append]
  simp
theorem keysTo_zero (ks : List ByteArray) : keysTo ks 0 = true := rfl
theorem keysTo_no {ks : List ByteArray} {i n : Nat} (h : keyAt ks i = false) (hi : i < n) : keysTo ks n = false := by
  rw [Bool.eq_false_iff]
  intro h2
  unfold keysTo at h2
  rw [List.all_eq_true] at h2
  have := h2 i (List.mem_range.2 hi)
  unfold keyAt at h
  rw [h] at this
  cases this
theorem getD_size {ks : List ByteArray} (h : ∀ x ∈ ks, x.size ≤ 9223372036854775807) (i : Nat) : (ks.getD i ByteArray.empty).size ≤ 9223372036854775807 := by
  by_cases hi : i < ks.length
  · rw [List.getD, List.getElem?_eq_getElem hi]; exact h _ (List.getElem_mem hi)
  · rw [List.getD, List.getElem?_eq_none (by omega)]; decide

theorem alloc_lt (w : World) (o : Obj) : w.heap.size < (w.alloc o).heap.size := by
  unfold World.alloc; simp

/-- in the round: what stands, i keys passed -/
def KeyRel (ks : List ByteArray) (kv : Value) (w1 : World) (f : Nat) (t : Value) (wr : World) : Prop :=
  ∃ i : Nat, t = .int .i64 (i : Nat) ∧ i ≤ ks.length ∧ f = ks.length - i ∧ keysTo ks i = true ∧ Below w1.heap.size w1 wr ∧ wr.cell? ⟨w1.heap.size, 5, none⟩ = some kv ∧ w1.heap.size < wr.heap.size

set_option maxRecDepth 100000 in
set_option maxHeartbeats 1600000 in
theorem keyed_any (k : Int) (b : Bool) (n : Int) (s : ByteArray) (lo : Option Addr) (ln lc : Nat) (ko : Option Addr) (kc : Nat) (ks : List ByteArray) (hl : ks.length ≤ 9223372036854775807) (hsz : ∀ x ∈ ks, x.size ≤ 9223372036854775807) (w : World) (h : StrsAt w (.slice ko ks.length kc) ks) :
    Calls Tryz.prog 126 #[.agg #[.int .i64 k, .bool b, .int .i64 n, .string s, .slice lo ln lc, .slice ko ks.length kc]] w fun e w' => e = .returned (.bool (decide (ks.length = ln) && keysTo ks ks.length)) ∧ Below w.heap.size w w' := by
  have H := Lib.hid h
  have HSZ := Lib.hid (getD_size hsz)
  clear h hsz
  go_enter Tryz.func126, Tryz.ntmps126
  by_cases hne : ks.length = ln
  · have tn : ((ks.length : Int) == (ln : Int)) = true := by rw [beq_iff_eq]; omega
    have tn2 : ((ks.length : Int) != (ln : Int)) = false := by simp [bne, tn]
    have HV : Hid ((decide (ks.length = ln) && keysTo ks ks.length) = keysTo ks ks.length) := by unfold Hid; rw [decide_eq_true hne]; rfl
    clear hne
    go_wp2_with fail
    go_loopg [15] ks.length (KeyRel ks (.slice ko ks.length kc) w)
    case atStart => exact ⟨0, rfl, Nat.zero_le _, rfl, rfl, (Below.refl _ w).alloc (Nat.le_refl _) _, cell_of_blk (hp_new rfl) 5, alloc_lt w _⟩
    case round =>
      obtain ⟨i, rfl, hi, rfl, hall, hbel, hk5, hz⟩ := hrel
      have HALL := Lib.hid hall
      have HB := Lib.hid hbel
      have HK5 := Lib.hid hk5
      clear hall hbel
      by_cases hlt : i < ks.length
      · obtain ⟨b0, off, rfl, hbl, hc⟩ := (H.out.below HB.out).at_ hlt
        have HC := Lib.hid hc
        have HAS := Lib.hid (keysTo_succ ks i)
        have HAN := Lib.hid (fun h => keysTo_no (ks := ks) (i := i) (n := ks.length) h hlt)
        have hii : (i : Int) < (ks.length : Int) := by omega
        have HKA : Hid (keyAt ks i = (keyOk (ks.getD i ByteArray.empty) && (decide (i = 0) || decide (natC (ks.getD (i - 1) ByteArray.empty).data.toList (ks.getD i ByteArray.empty).data.toList < 0)))) := rfl
        by_cases h1 : 1 ≤ (ks.getD i ByteArray.empty).size
        · have t1 : decide (((ks.getD i ByteArray.empty).size : Int) < 1) = false := decide_eq_false (by omega)
          have t1b : (1 : Int) ≤ ((ks.getD i ByteArray.empty).size : Int) := by omega
          by_cases h2 : (ks.getD i ByteArray.empty).size ≤ 64
          · have t2 : decide ((64 : Int) < ((ks.getD i ByteArray.empty).size : Int)) = false := decide_eq_false (by omega)
            have t2b : ((ks.getD i ByteArray.empty).size : Int) ≤ 64 := by omega
            have HO : Hid (keyOk (ks.getD i ByteArray.empty) = true) := by unfold Hid keyOk; rw [decide_eq_true h1, decide_eq_true h2]; rfl
            clear h1 h2
            by_cases h0 : i = 0
            · have HF : Hid (keysTo ks (i + 1) = true) := by unfold Hid; rw [HAS.out, HALL.out, HKA.out, HO.out, decide_eq_true h0]; rfl
              have t3 : decide ((0 : Int) < (i : Int)) = false := decide_eq_false (by omega)
              have t3b : decide (0 < i) = false := decide_eq_false (by omega)
              clear HAS HAN HKA h0
              generalize ks.getD i ByteArray.empty = y at *
              as_aux_lemma =>
              go_wp2_with fail
              go_roundg (ks.length - (i + 1))
              case measure => omega
              case rel => exact ⟨i + 1, by go_num, by omega, rfl, HF.out, HB.out, HK5.out, hz⟩
            · obtain ⟨b2, off2, e, _, hc2⟩ := (H.out.below HB.out).at_ (show i - 1 < ks.length by omega)
              injection e with e
              injection e with e1 e2
              subst e1 e2
              have HC2 := Lib.hid hc2
              have CM := fun W => Lib.hid (compare_any (ks.getD (i - 1) ByteArray.empty) (ks.getD i ByteArray.empty) (HSZ.out _) (HSZ.out _) W)
              have t3 : (0 : Int) < (i : Int) := by omega
              have t3b : 0 < i := by omega
              have hi0 : (i : Int) - 1 < (ks.length : Int) := by omega
              have hi3 : (1 : Int) ≤ (i : Int) := by omega
              have q1 : IntKind.i64.wrap ((i : Int) - 1) = (i : Int) - 1 := IntWalk.i64_in _ (by omega)
              have q2 : (0 : Int) ≤ (i : Int) - 1 := by omega
              have q3 : ((i : Int) - 1).toNat = i - 1 := by omega
              rw [decide_eq_false h0] at HKA
              generalize ks.getD (i - 1) ByteArray.empty = x at *
              generalize ks.getD i ByteArray.empty = y at *
              as_aux_lemma =>
              go_wp2_with fail
              refine (CM _).out.mono ?_
              rintro e w5 ⟨rfl, hu⟩
              have HB5 := Lib.hid (HB.out.trans (hu.b.mono HB.out.size))
              have HK6 : Hid (w5.cell? ⟨w.heap.size, 5, none⟩ = some (.slice (some ⟨b0, off, none⟩) ks.length kc)) := (hu.b.cell (p := ⟨w.heap.size, 5, none⟩) hz).trans HK5.out
              have hz5 : w.heap.size < w5.heap.size := Nat.lt_of_lt_of_le hz hu.b.size
              clear hu
              generalize natC x.data.toList y.data.toList = q at *
              by_cases hq : q < 0
              · have HF : Hid (keysTo ks (i + 1) = true) := by unfold Hid; rw [HAS.out, HALL.out, HKA.out, HO.out, decide_eq_true hq]; rfl
                have t4 : decide ((0 : Int) ≤ q) = false := decide_eq_false (by omega)
                clear HAN HKA HAS
                as_aux_lemma =>
                go_wp2_with fail
                go_roundg (ks.length - (i + 1))
                case measure => omega
                case rel => exact ⟨i + 1, by go_num, by omega, rfl, HF.out, HB5.out, HK6.out, hz5⟩
              · have HF : Hid (keysTo ks ks.length = false) := HAN.out (by rw [HKA.out, decide_eq_false hq]; simp)
                have t4 : (0 : Int) ≤ q := by omega
                clear HAN HKA HAS
                as_aux_lemma =>
                go_wp2_with fail
                go_ret
                exact ⟨by rw [HV.out, HF.out]; rfl, HB5.out⟩
          · have t2 : (64 : Int) < ((ks.getD i ByteArray.empty).size : Int) := by omega
            have HO : Hid (keyOk (ks.getD i ByteArray.empty) = false) := by unfold Hid keyOk; rw [decide_eq_false h2]; simp
            have HF : Hid (keysTo ks ks.length = false) := HAN.out (by rw [HKA.out, HO.out]; rfl)
            clear h1 h2 HAN HKA HAS HO
            generalize ks.getD i ByteArray.empty = y at *
            as_aux_lemma =>
            go_wp2_with fail
            go_ret
            exact ⟨by rw [HV.out, HF.out]; rfl, HB.out⟩
        · have t1 : ((ks.getD i ByteArray.empty).size : Int) < 1 := by omega
          have HO : Hid (keyOk (ks.getD i ByteArray.empty) = false) := by unfold Hid keyOk; rw [decide_eq_false h1]; rfl
          have HF : Hid (keysTo ks ks.length = false) := HAN.out (by rw [HKA.out, HO.out]; rfl)
          clear h1 HAN HKA HAS HO
          generalize ks.getD i ByteArray.empty = y at *
          as_aux_lemma =>
          go_wp2_with fail
          go_ret
          exact ⟨by rw [HV.out, HF.out]; rfl, HB.out⟩
      · have hii : ¬ (i : Int) < (ks.length : Int) := by omega
        have HF : Hid (keysTo ks ks.length = true) := by
          have : i = ks.length := by omega
          subst this; exact HALL.out
        go_wp2_with fail
        go_ret
        exact ⟨by rw [HV.out, HF.out]; rfl, HB.out⟩
  · have tn : ((ks.length : Int) == (ln : Int)) = false := by rw [beq_eq_false_iff_ne]; omega
    have tn2 : ((ks.length : Int) != (ln : Int)) = true := by simp [bne, tn]
    have HV : Hid ((decide (ks.length = ln) && keysTo ks ks.length) = false) := by unfold Hid; rw [decide_eq_false hne]; rfl
    clear hne
    go_wp2_with fail
    go_ret
    exact ⟨by rw [HV.out]; rfl, (Below.refl _ w).alloc (Nat.le_refl _) _⟩
end Go.Proofs.YtomecnncighkgaaGreatDoor
