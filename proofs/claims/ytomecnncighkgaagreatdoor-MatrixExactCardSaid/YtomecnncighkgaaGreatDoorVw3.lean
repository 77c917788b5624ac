/- The walk over the reference's ascending. -/
import Derived.Test.YtomecnncighkgaaGreatDoorVw1
import Derived.Test.YtomecnncighkgaaGreatDoorVw2
import Derived.Test.YtomecnncighkgaaGreatDoorVb3
import Derived.Deep.RegionHeld3
namespace Go.Proofs.YtomecnncighkgaaGreatDoor
open Go.RowKit

theorem below_drewN {n : Nat} {w w1 : World} (h : Below n w w1) (k : Nat) : Below n w (w1.drewN k) := ⟨h.os, h.tape, h.output, h.size, h.block⟩

/-- in the round, with the elements' cell beside -/
def AscRel (ks : List ByteArray) (kv lv : Value) (w1 : World) (f : Nat) (t : Value) (wr : World) : Prop :=
  KeyRel ks kv w1 f t wr ∧ wr.cell? ⟨w1.heap.size, 4, none⟩ = some lv

/-- what the tests read while the comparison runs -/
def AscS (w wr : World) (b0 off n kc i : Nat) (x y : ByteArray) (w' : World) : Prop :=
  w'.cell? ⟨w.heap.size, 5, none⟩ = some (.slice (some ⟨b0, off, none⟩) n kc) ∧ w'.cell? ⟨b0, off + (i - 1), none⟩ = some (.string x) ∧ w'.cell? ⟨b0, off + i, none⟩ = some (.string y) ∧ Below wr.heap.size wr w'
theorem ascS_up {w wr : World} {b0 off n kc i : Nat} {x y : ByteArray} {W w' : World} (hz : w.heap.size < wr.heap.size) (hb : b0 < wr.heap.size) (h : AscS w wr b0 off n kc i x y W) (hu : Below W.heap.size W w') : AscS w wr b0 off n kc i x y w' := by
  obtain ⟨h1, h2, h3, h4⟩ := h
  have k1 := h4.size
  exact ⟨(hu.cell (p := ⟨w.heap.size, 5, none⟩) (Nat.lt_of_lt_of_le hz k1)).trans h1, (hu.cell (p := ⟨b0, off + (i - 1), none⟩) (Nat.lt_of_lt_of_le hb k1)).trans h2, (hu.cell (p := ⟨b0, off + i, none⟩) (Nat.lt_of_lt_of_le hb k1)).trans h3, h4.trans (hu.mono k1)⟩

set_option maxRecDepth 100000 in
set_option maxHeartbeats 1600000 in
theorem rasc_any (k : Int) (b : Bool) (n : Int) (s : ByteArray) (lo : Option Addr) (ln lc : Nat) (ko : Option Addr) (kc : Nat) (ks : List ByteArray) (hl : ks.length ≤ 9223372036854775806) (hsz : ∀ x ∈ ks, x.size ≤ 9223372036854775807) (w : World) (h : StrsAt w (.slice ko ks.length kc) ks) :
    Calls Tryz.prog 133 #[.agg #[.int .i64 k, .bool b, .int .i64 n, .string s, .slice lo ln lc, .slice ko ks.length kc]] w fun e w' => e = .returned (.bool (decide (ks.length = ln) && keysTo ks ks.length)) ∧ Below w.heap.size w w' := by
  have H := Lib.hid h
  have HSZ := Lib.hid (getD_size hsz)
  have HKZ := Lib.hid hl
  clear h hsz
  go_enter Tryz.func133, Tryz.ntmps133
  go_wp2_with fail
  go_loopg [3] ks.length (AscRel ks (.slice ko ks.length kc) (.slice lo ln lc) w)
  case atStart => exact ⟨⟨0, rfl, Nat.zero_le _, rfl, rfl, (Below.refl _ w).alloc (Nat.le_refl _) _, cell_of_blk (hp_new rfl) 5, alloc_lt w _⟩, cell_of_blk (hp_new rfl) 4⟩
  case round =>
    obtain ⟨⟨i, rfl, hi, rfl, hall, hbel, hk5, hz⟩, hk4⟩ := hrel
    have HK4 := Lib.hid hk4
    clear hk4
    have HALL := Lib.hid hall
    have HB := Lib.hid hbel
    have HK5 := Lib.hid hk5
    clear hall hbel
    by_cases hlt : i < ks.length
    · obtain ⟨b0, off, rfl, hbl, hc⟩ := (H.out.below HB.out).at_ hlt
      have HAS := Lib.hid (keysTo_succ ks i)
      have HAN := Lib.hid (fun h => keysTo_no (ks := ks) (i := i) (n := ks.length) h hlt)
      have hii : (i : Int) < (ks.length : Int) := by omega
      have HKA : Hid (keyAt ks i = (keyOk (ks.getD i ByteArray.empty) && (decide (i = 0) || decide (natC (ks.getD (i - 1) ByteArray.empty).data.toList (ks.getD i ByteArray.empty).data.toList < 0)))) := rfl
      have KY := fun nq => Lib.hid (Calls.quiet_of_same (key_any (ks.getD i ByteArray.empty) (wr.drewN nq)))
      have KYA := fun W => Lib.hid (key_any (ks.getD i ByteArray.empty) W)
      by_cases ho : keyOk (ks.getD i ByteArray.empty) = true
      · rw [ho] at KY KYA HKA
        by_cases h0 : i = 0
        · have HF : Hid (keysTo ks (i + 1) = true) := by unfold Hid; rw [HAS.out, HALL.out, HKA.out, decide_eq_true h0]; rfl
          have t3 : decide ((0 : Int) < (i : Int)) = false := decide_eq_false (by omega)
          have t3b : decide (0 < i) = false := decide_eq_false (by omega)
          clear HAS HAN HKA h0 KYA
          generalize ks.getD i ByteArray.empty = y at *
          as_aux_lemma =>
          go_upto_region 4 with fail
          go_quiet ((go_at_call 145; with_reducible exact (KY _).out))
          rename_i nq
          have HB5 : Hid (Below w.heap.size w (wr.drewN nq)) := below_drewN HB.out nq
          go_wp2_with fail
          go_roundg (ks.length - (i + 1))
          case measure => omega
          case rel => exact ⟨⟨i + 1, by go_num, by omega, rfl, HF.out, HB5.out, HK5.out, hz⟩, HK4.out⟩
        · obtain ⟨b2, off2, e, _, hc2⟩ := (H.out.below HB.out).at_ (show i - 1 < ks.length by omega)
          injection e with e
          injection e with e1 e2
          subst e1 e2
          have CM := fun W => Lib.hid (rcompare_any (ks.getD (i - 1) ByteArray.empty) (ks.getD i ByteArray.empty) (HSZ.out _) (HSZ.out _) W)
          have t3 : (0 : Int) < (i : Int) := by omega
          have t3b : 0 < i := by omega
          have hi0 : (i : Int) - 1 < (ks.length : Int) := by omega
          have hi3 : (1 : Int) ≤ (i : Int) := by omega
          have q1 : IntKind.i64.wrap ((i : Int) - 1) = (i : Int) - 1 := IntWalk.i64_in _ (by omega)
          have q2 : (0 : Int) ≤ (i : Int) - 1 := by omega
          have q3 : ((i : Int) - 1).toNat = i - 1 := by omega
          rw [decide_eq_false h0] at HKA
          generalize ks.getD (i - 1) ByteArray.empty = x at *
          generalize ks.getD i ByteArray.empty = y at *
          have hb0 := Below.refl wr.heap.size wr
          have KA : Hid (∀ W, AscS w wr b0 off ks.length kc i x y W → Calls Tryz.prog 145 #[.string y] W fun e w' => e = .returned (.bool true) ∧ AscS w wr b0 off ks.length kc i x y w') := fun W hS => (KYA W).out.mono (by
            rintro e w' ⟨rfl, rfl⟩; exact ⟨rfl, hS⟩)
          have CA : Hid (∀ W, AscS w wr b0 off ks.length kc i x y W → Calls Tryz.prog 22 #[.string x, .string y] W fun e w' => e = .returned (.int .i64 (natC x.data.toList y.data.toList)) ∧ AscS w wr b0 off ks.length kc i x y w') := fun W hS => (CM W).out.mono (by
            rintro e w' ⟨rfl, hu⟩; exact ⟨rfl, ascS_up hz hbl hS hu.b⟩)
          clear KY KYA CM
          generalize natC x.data.toList y.data.toList = q at *
          go_upto_region 4 with fail
          go_region_held3 (fun w' => w'.cell? ⟨w.heap.size, 5, none⟩ = some (.slice (some ⟨b0, off, none⟩) ks.length kc) ∧ w'.cell? ⟨b0, off + (i - 1), none⟩ = some (.string x) ∧ w'.cell? ⟨b0, off + i, none⟩ = some (.string y) ∧ Below wr.heap.size wr w') (first | exact ⟨hk5, hc2, hc, hb0.drew⟩ | exact hSB | exact hSA | go_keep)
            (first
              | (go_at_call 145; refine (KA.out _ (by assumption)).mono ?_; rintro e wA ⟨rfl, hSA⟩)
              | (go_at_call 22; refine (CA.out _ (by assumption)).mono ?_; rintro e wB ⟨rfl, hSB⟩))
          have HB5 : Hid (Below w.heap.size w wB) := HB.out.trans (hSB.2.2.2.mono HB.out.size)
          have HK6 := Lib.hid hSB.1
          have HK46 : Hid (wB.cell? ⟨w.heap.size, 4, none⟩ = some (.slice lo ln lc)) := (hSB.2.2.2.cell (p := ⟨w.heap.size, 4, none⟩) hz).trans HK4.out
          have hz5 : w.heap.size < wB.heap.size := Nat.lt_of_lt_of_le hz hSB.2.2.2.size
          have hk6 := hSB.1
          clear hSA hSB hk5 hc2 hc
          by_cases hq : q < 0
          · have HF : Hid (keysTo ks (i + 1) = true) := by unfold Hid; rw [HAS.out, HALL.out, HKA.out, decide_eq_true hq]; rfl
            have t4 : decide ((0 : Int) ≤ q) = false := decide_eq_false (by omega)
            clear HAN HKA HAS
            as_aux_lemma =>
            go_wp2_with fail
            go_roundg (ks.length - (i + 1))
            case measure => omega
            case rel => exact ⟨⟨i + 1, by go_num, by omega, rfl, HF.out, HB5.out, HK6.out, hz5⟩, HK46.out⟩
          · have HF : Hid (keysTo ks ks.length = false) := HAN.out (by rw [HKA.out, decide_eq_false hq]; simp)
            have t4 : (0 : Int) ≤ q := by omega
            clear HAN HKA HAS
            as_aux_lemma =>
            go_wp2_with fail
            go_ret
            exact ⟨by rw [HF.out]; simp, HB5.out⟩
      · have hof : keyOk (ks.getD i ByteArray.empty) = false := by rw [Bool.eq_false_iff]; exact ho
        rw [hof] at KY HKA
        have HF : Hid (keysTo ks ks.length = false) := HAN.out (by rw [HKA.out]; rfl)
        clear HAS HAN HKA KYA ho
        generalize ks.getD i ByteArray.empty = y at *
        as_aux_lemma =>
        go_upto_region 4 with fail
        go_quiet ((go_at_call 145; with_reducible exact (KY _).out))
        rename_i nq
        have HB5 : Hid (Below w.heap.size w (wr.drewN nq)) := below_drewN HB.out nq
        go_wp2_with fail
        go_ret
        exact ⟨by rw [HF.out]; simp, HB5.out⟩
    · have hii : ¬ (i : Int) < (ks.length : Int) := by omega
      have HF : Hid (keysTo ks ks.length = true) := by
        have : i = ks.length := by omega
        subst this; exact HALL.out
      by_cases hne : ks.length = ln
      · have tn : ((ks.length : Int) == (ln : Int)) = true := by rw [beq_iff_eq]; omega
        have HV : Hid ((decide (ks.length = ln) && keysTo ks ks.length) = true) := by unfold Hid; rw [decide_eq_true hne, HF.out]; rfl
        clear hne
        have hk4 := HK4.out
        as_aux_lemma =>
        go_wp2_with fail
        go_ret
        exact ⟨by rw [HV.out]; rfl, HB.out⟩
      · have tn : ((ks.length : Int) == (ln : Int)) = false := by rw [beq_eq_false_iff_ne]; omega
        have HV : Hid ((decide (ks.length = ln) && keysTo ks ks.length) = false) := by unfold Hid; rw [decide_eq_false hne]; rfl
        clear hne
        have hk4 := HK4.out
        as_aux_lemma =>
        go_wp2_with fail
        go_ret
        exact ⟨by rw [HV.out]; rfl, HB.out⟩
end Go.Proofs.YtomecnncighkgaaGreatDoor
