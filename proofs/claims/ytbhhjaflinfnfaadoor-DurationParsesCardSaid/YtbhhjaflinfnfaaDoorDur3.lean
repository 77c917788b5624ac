/- The walk over duration's Show. -/
import Derived.Test.YtbhhjaflinfnfaaDoorDur2
import Derived.Lib.AppendIntMem
namespace Go.Proofs.YtbhhjaflinfnfaaDoor
open Go.RowKit

def Pow10At (w : World) : Prop := Lib.TabBelow Tryd.prog w.heap.size w "internal/strconv.uint64pow10" .u64 Lib.pow10Tab
theorem Pow10At.below {w w1 : World} (h : Pow10At w) (hb : Below w.heap.size w w1) : Pow10At w1 := fun w' hb' => h w' (hb.trans (hb'.mono hb.size))

/-- the number that is left and the text so far, after k units -/
def showTo (n : Nat) : Nat → Nat × List UInt8
  | 0 => (n, [])
  | k + 1 => ((showTo n k).1 % uMs k, if 0 < (showTo n k).1 / uMs k then (showTo n k).2 ++ (Lib.itoa (((showTo n k).1 / uMs k : Nat) : Int) ++ (uN k).data.toList) else (showTo n k).2)
def showF (n : Nat) : List UInt8 := if n = 0 then [48, 115] else (showTo n 5).2

theorem showTo_le (n k : Nat) : (showTo n k).1 ≤ n := by
  induction k with
  | zero => exact Nat.le_refl _
  | succ k ih => rw [showTo]; exact Nat.le_trans (Nat.mod_le _ _) ih
theorem uMs_pos (i : Nat) : 0 < uMs i := by unfold uMs; (repeat' split) <;> omega

theorem nDigits_le : ∀ (k u : Nat), u < 10 ^ (k + 1) → Lib.nDigits u ≤ k + 1
  | 0, u, h => by rw [Lib.nDigits_small (by simpa using h)]; exact Nat.le_refl _
  | k + 1, u, h => by
    by_cases h1 : u < 10
    · rw [Lib.nDigits_small h1]; omega
    · rw [Lib.nDigits_big h1]
      have := nDigits_le k (u / 10) (by rw [Nat.pow_succ] at h; omega)
      omega
theorem itoa_len (u : Nat) (h : u ≤ 1125899906842624) : (Lib.itoa (u : Int)).length ≤ 16 := by
  unfold Lib.itoa
  rw [if_neg (by omega), Int.toNat_natCast, Lib.decDigits_length]
  exact nDigits_le 15 u (by omega)
theorem uN_size (i : Nat) : (uN i).size ≤ 2 := by
  unfold uN; (repeat' split) <;> decide
theorem showTo_len (n : Nat) (hn : n ≤ 1125899906842624) (k : Nat) : (showTo n k).2.length ≤ 18 * k := by
  induction k with
  | zero => exact Nat.le_refl _
  | succ k ih =>
    rw [showTo]
    have h1 := showTo_le n k
    have h2 := Nat.div_le_self (showTo n k).1 (uMs k)
    have h3 := itoa_len ((showTo n k).1 / uMs k) (by omega)
    have h4 := uN_size k
    rw [Lib.size_eq] at h4
    dsimp only
    split
    · rw [List.length_append, List.length_append]; omega
    · omega

def ShowRel (w1 : World) (n0 : Nat) (f : Nat) (t0 t3 t10 : Value) (wr : World) : Prop :=
  ∃ (k : Nat) (s : ByteArray), t10 = .int .i64 (k : Nat) ∧ t0 = .int .i64 ((showTo n0 k).1 : Nat) ∧ t3 = .string s ∧ s.data.toList = (showTo n0 k).2 ∧ k ≤ 5 ∧ f = 5 - k ∧ Below w1.heap.size w1 wr

def ShowPost (l : List UInt8) (w : World) (e : Ending) (w' : World) : Prop := ∃ s : ByteArray, e = .returned (.string s) ∧ s.data.toList = l ∧ Below w.heap.size w w'

set_option maxRecDepth 100000 in
set_option maxHeartbeats 1600000 in
theorem show_any (n : Int) (w : World) (hu : UnitsAt w) (hp : Pow10At w) : Calls Tryd.prog 11 #[.int .i64 n] w (ShowPost (showF (limF n).toNat) w) := by
  have HU := Lib.hid hu
  have HP := Lib.hid hp
  clear hu hp
  go_enter Tryd.func11, Tryd.ntmps11
  go_wp2_with fail
  refine (limit_any _ _ _ _).mono ?_
  rintro e w1 ⟨rfl, rfl⟩
  obtain ⟨n0, hn0, hn1, hn2⟩ : ∃ n0 : Nat, max 0 (min n 1125899906842624) = (n0 : Int) ∧ (limF n).toNat = n0 ∧ n0 ≤ 1125899906842624 := ⟨(limF n).toNat, by unfold limF; omega, rfl, by unfold limF; omega⟩
  have HN1 := Lib.hid hn1
  rw [hn0]
  clear hn0 hn1
  by_cases h0 : n0 = 0
  · subst h0
    go_wp2_with fail
    go_ret
    exact ⟨_, rfl, by rw [HN1.out]; rfl, Below.refl _ _⟩
  · have t0 : ((n0 : Int) == 0) = false := by rw [beq_eq_false_iff_ne]; omega
    have HF : Hid (showF (limF n).toNat = (showTo n0 5).2) := by unfold Hid showF; rw [HN1.out, if_neg h0]
    go_wp2_with fail
    go_loopg [0, 3, 10] 5 (ShowRel w1 n0)
    case atStart => exact ⟨0, ⟨#[]⟩, rfl, rfl, rfl, rfl, by omega, rfl, Below.refl _ _⟩
    case round =>
      obtain ⟨k, s, rfl, rfl, rfl, hs, hk, rfl, hbel⟩ := hrel
      have HS := Lib.hid hs
      have HB := Lib.hid hbel
      clear hs hbel
      by_cases hlt : k < 5
      · obtain ⟨c0, c1, _⟩ := (UnitsAt.below HU.out HB.out).2 k hlt
        have hle := showTo_le n0 k
        have hln := showTo_len n0 hn2 k
        have hus := uN_size k
        have HST : Hid (showTo n0 (k + 1) = ((showTo n0 k).1 % uMs k, if 0 < (showTo n0 k).1 / uMs k then (showTo n0 k).2 ++ (Lib.itoa (((showTo n0 k).1 / uMs k : Nat) : Int) ++ (uN k).data.toList) else (showTo n0 k).2)) := rfl
        have hms := uMs_le k
        have hmp := uMs_pos k
        generalize (showTo n0 k).1 = x at *
        generalize (showTo n0 k).2 = l at *
        generalize hun : uN k = un at *
        have HUN := Lib.hid hun
        clear hun
        generalize hmsE : uMs k = ms at *
        have HMS := Lib.hid hmsE
        clear hmsE
        have hne : ((ms : Int) == 0) = false := by rw [beq_eq_false_iff_ne]; omega
        have hnz : ¬ (ms : Int) = 0 := by omega
        have hd0 : wrap64 ((x : Int) / (ms : Int)) = ((x / ms : Nat) : Int) := by
          have := Nat.div_le_self x ms
          have hc : ((x : Int) / (ms : Int)) = ((x / ms : Nat) : Int) := by exact_mod_cast rfl
          rw [hc]
          generalize x / ms = q at *
          exact wrap_in (by omega) (by omega)
        have hm0 : (x : Int) % (ms : Int) = ((x % ms : Nat) : Int) := by exact_mod_cast rfl
        have hdle := Nat.div_le_self x ms
        by_cases hq : 0 < x / ms
        · rw [if_pos hq] at HST
          have hq1 : ((x / ms : Nat) : Int) > 0 := by omega
          generalize x / ms = q at *
          generalize x % ms = r at *
          have hqi : (q : Int) ≤ 9223372036854775807 := by omega
          have ITOA : Hid (∀ W, Below wr.heap.size wr W → Calls Tryd.prog 29 #[.int .i64 (q : Nat)] W fun e w' => e = .returned (.string ⟨(Lib.itoa (q : Int)).toArray⟩) ∧ Below wr.heap.size wr w' ∧ w'.cell? ⟨0, k * 3, none⟩ = some (.string un) ∧ w'.cell? ⟨0, k * 3 + 1, none⟩ = some (.int .i64 (ms : Nat))) := fun W hW =>
            (Tryd.strconv_Itoa (q : Int) (by omega) hqi W ((HP.out.below HB.out).below hW).here).mono (by
              rintro e w' ⟨rfl, kk, os, rfl⟩
              have hb2 := hW.trans (Lib.below_grow wr.heap.size W hW.size kk os)
              obtain ⟨d0, d1, _⟩ := ((UnitsAt.below HU.out HB.out).below hb2).2 k hlt
              rw [HUN.out] at d0
              rw [HMS.out] at d1
              exact ⟨rfl, hb2, d0, d1⟩)
          have hb0 := Below.refl wr.heap.size wr
          have hil := itoa_len q (by omega)
          have hsz : s.size ≤ 90 := by rw [Lib.size_eq, HS.out]; omega
          have hx1 : ¬ 9223372036854775807 < (Lib.itoa (q : Int)).length + un.size := by omega
          have hx2 : ¬ 9223372036854775807 < s.size + ((Lib.itoa (q : Int)).length + un.size) := by omega
          generalize Lib.itoa (q : Int) = it at *
          go_wp2_with fail
          go_region_with (go_at_call 29; refine (ITOA.out _ (by first | exact hb0 | exact hb0.drew)).mono ?_; rintro e wA ⟨rfl, hbA, cA, cA1⟩)
          all_goals (
            go_wp2_with fail
            go_roundg (5 - (k + 1))
            case measure => omega
            case rel => exact ⟨k + 1, _, by go_num, by rw [HST.out, hm0], rfl, by rw [HST.out, ← HS.out]; simp, by omega, rfl, HB.out.trans (hbA.mono HB.out.size)⟩)
        · rw [if_neg hq] at HST
          have hq1 : ¬ ((x / ms : Nat) : Int) > 0 := by omega
          generalize x / ms = q at *
          generalize x % ms = r at *
          have hq0 : q = 0 := by omega
          subst hq0
          have hq2 : ¬ (0 : Int) < 0 := by omega
          go_wp2_with fail
          go_roundg (5 - (k + 1))
          case measure => omega
          case rel => exact ⟨k + 1, s, by go_num, by rw [HST.out], rfl, by rw [HST.out]; exact HS.out, by omega, rfl, HB.out⟩
      · have hk5 : k = 5 := by omega
        subst hk5
        go_wp2_with fail
        go_ret
        exact ⟨_, rfl, by rw [HF.out]; exact HS.out, HB.out⟩
end Go.Proofs.YtbhhjaflinfnfaaDoor
