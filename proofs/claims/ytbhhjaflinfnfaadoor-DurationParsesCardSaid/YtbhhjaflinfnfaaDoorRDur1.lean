/- The walks over the reference's UnitSize, UnitName, Decimal, Show, and the law's part. -/
import Derived.Test.YtbhhjaflinfnfaaDoorRDur0
namespace Go.Proofs.YtbhhjaflinfnfaaDoor
open Go.RowKit

theorem digs_one (m : Nat) (hm : m < 10) : (digs.extract m (m + 1)).data.toList = [UInt8.ofNat (48 + m)] := by
  have : ∀ k : Fin 10, (digs.extract k.val (k.val + 1)).data.toList = [UInt8.ofNat (48 + k.val)] := by decide +kernel
  exact this ⟨m, hm⟩

theorem str_app (a b : ByteArray) : (a ++ b).data.toList = a.data.toList ++ b.data.toList := by simp
theorem size_app (a b : ByteArray) : (a ++ b).size = a.size + b.size := by simp

def DecRel (n0 : Nat) (w1 : World) (f : Nat) (t0 t3 : Value) (wr : World) : Prop :=
  ∃ (x : Nat) (s : ByteArray), t0 = .int .i64 (x : Nat) ∧ t3 = .string s ∧ Lib.decDigits n0 = Lib.decDigits x ++ s.data.toList ∧ x ≤ n0 ∧ x = f ∧ Below w1.heap.size w1 wr

set_option maxRecDepth 100000 in
set_option maxHeartbeats 1600000 in
theorem decimal_any (n : Nat) (hn : n ≤ 1125899906842624) (w : World) : Calls Tryd.prog 30 #[.int .i64 (n : Nat)] w (ShowPost (Lib.itoa (n : Int)) w) := by
  have HI : Hid (Lib.itoa (n : Int) = Lib.decDigits n) := Lib.itoa_nonneg n
  have HL : Hid ((Lib.decDigits n).length ≤ 16) := by
    have := itoa_len n hn
    rw [HI.out] at this
    exact this
  go_enter Tryd.func30, Tryd.ntmps30
  go_wp2_with fail
  go_loopg [0, 3] n (DecRel n w)
  case atStart => exact ⟨n, ⟨#[]⟩, rfl, rfl, by simp, Nat.le_refl _, rfl, Below.refl _ _⟩
  case round =>
    obtain ⟨x, s, rfl, rfl, hs, hx, rfl, hbel⟩ := hrel
    have hsz : s.size ≤ 16 := by
      have := HL.out
      rw [hs, List.length_append] at this
      rw [Lib.size_eq]; omega
    have HS := Lib.hid hs
    have HB := Lib.hid hbel
    clear hs hbel
    by_cases h9 : 9 < x
    · have hc9 : (9 : Int) < (x : Int) := by omega
      have hm0 : (x : Int) % 10 = ((x % 10 : Nat) : Int) := by omega
      have hd0 : wrap64 ((x : Int) / 10) = ((x / 10 : Nat) : Int) := by
        rw [show (x : Int) / 10 = ((x / 10 : Nat) : Int) by omega]
        exact wrap_in (by omega) (by omega)
      have hdv : (x : Int) / 10 = ((x / 10 : Nat) : Int) := by omega
      have HN : Hid (Lib.decDigits x = Lib.decDigits (x / 10) ++ [UInt8.ofNat (48 + x % 10)]) := by unfold Hid; rw [Lib.decDigits, dif_neg (by omega)]
      have hm9 : x % 10 < 10 := Nat.mod_lt _ (by decide)
      have hdl : x / 10 < x := by omega
      generalize x % 10 = m at *
      generalize x / 10 = y at *
      have q1 : IntKind.i64.wrap ((m : Int) + 1) = (m : Int) + 1 := IntWalk.i64_in _ (by omega)
      have q0 : wrap64 ((m : Int) + 1) = (m : Int) + 1 := wrap_in (by omega) (by omega)
      have q2 : (0 : Int) ≤ (m : Int) + 1 := by omega
      have q3 : ((m : Int) + 1).toNat = m + 1 := by omega
      have q4 : (m : Int) + 1 ≤ 10 := by omega
      have q5 : (m : Int) ≤ 10 := by omega
      have q6 : (m : Int) ≤ (m : Int) + 1 := by omega
      have q7 : (digs.extract m (m + 1)).size = 1 := by rw [Lib.size_eq, digs_one m hm9]; rfl
      have q8 : ¬ 9223372036854775807 < 1 + s.size := by omega
      have HD : Hid (((⟨#[48, 49, 50, 51, 52, 53, 54, 55, 56, 57]⟩ : ByteArray).extract m (m + 1)).data.toList = [UInt8.ofNat (48 + m)]) := digs_one m hm9
      go_wp2_with fail
      go_roundg y
      case measure => omega
      case rel => exact ⟨y, _, rfl, rfl, by rw [HS.out, HN.out, str_app, HD.out]; simp, by omega, rfl, HB.out⟩
    · have hc9 : ¬ (9 : Int) < (x : Int) := by omega
      have hm9 : x < 10 := by omega
      have HN : Hid (Lib.decDigits x = [UInt8.ofNat (48 + x)]) := Lib.decDigits_one hm9
      have q0 : wrap64 ((x : Int) + 1) = (x : Int) + 1 := wrap_in (by omega) (by omega)
      have q2 : (0 : Int) ≤ (x : Int) + 1 := by omega
      have q3 : ((x : Int) + 1).toNat = x + 1 := by omega
      have q4 : (x : Int) + 1 ≤ 10 := by omega
      have q5 : (x : Int) ≤ 10 := by omega
      have q6 : (x : Int) ≤ (x : Int) + 1 := by omega
      have q7 : (digs.extract x (x + 1)).size = 1 := by rw [Lib.size_eq, digs_one x hm9]; rfl
      have q8 : ¬ 9223372036854775807 < 1 + s.size := by omega
      have HD : Hid (((⟨#[48, 49, 50, 51, 52, 53, 54, 55, 56, 57]⟩ : ByteArray).extract x (x + 1)).data.toList = [UInt8.ofNat (48 + x)]) := digs_one x hm9
      go_wp2_with fail
      go_ret
      exact ⟨_, rfl, by rw [HI.out, HS.out, HN.out, str_app, HD.out], HB.out⟩

set_option maxRecDepth 100000 in
set_option maxHeartbeats 1600000 in
theorem part_any (n : Nat) (hn : n ≤ 1125899906842624) (u : ByteArray) (hu : u.size ≤ 2) (w : World) : Calls Tryd.prog 18 #[.int .i64 (n : Nat), .string u] w (ShowPost (if n = 0 then [] else Lib.itoa (n : Int) ++ u.data.toList) w) := by
  go_enter Tryd.func18, Tryd.ntmps18
  by_cases h0 : n = 0
  · subst h0
    go_wp2_with fail
    go_ret
    exact ⟨_, rfl, rfl, Below.refl _ _⟩
  · rw [if_neg h0]
    have t0 : ((n : Int) == 0) = false := by rw [beq_eq_false_iff_ne]; omega
    go_wp2_with fail
    refine (decimal_any n hn w).mono ?_
    rintro e w1 ⟨s, rfl, hs, hb⟩
    have hl := itoa_len n hn
    rw [← hs, ← Lib.size_eq] at hl
    have HS := Lib.hid hs
    have HB := Lib.hid hb
    clear hs hb
    have q8 : ¬ 9223372036854775807 < s.size + u.size := by omega
    go_wp2_with fail
    go_ret
    exact ⟨_, rfl, by rw [← HS.out, str_app], HB.out⟩

set_option maxRecDepth 100000 in
set_option maxHeartbeats 3200000 in
theorem rshow_any (n : Int) (w : World) : Calls Tryd.prog 12 #[.int .i64 n] w (ShowPost (showF (limF n).toNat) w) := by
  go_enter Tryd.func12, Tryd.ntmps12
  go_wp2_with fail
  refine (rlimit_any n w).mono ?_
  rintro e w1 ⟨rfl, rfl⟩
  obtain ⟨n0, hn0, hn1, hn2⟩ : ∃ n0 : Nat, limF n = (n0 : Int) ∧ (limF n).toNat = n0 ∧ n0 ≤ 1125899906842624 := ⟨(limF n).toNat, by unfold limF; omega, rfl, by unfold limF; omega⟩
  have HN1 := Lib.hid hn1
  rw [hn0]
  clear hn0 hn1
  by_cases h0 : n0 = 0
  · subst h0
    go_wp2_with fail
    go_ret
    exact ⟨_, rfl, by rw [HN1.out]; rfl, Below.refl _ _⟩
  · have t0 : ((n0 : Int) == 0) = false := by rw [beq_eq_false_iff_ne]; omega
    have HF : Hid (showF (limF n).toNat = (showTo n0 5).2) := by unfold Hid showF; rw [HN1.out, if_neg h0]
    go_wp2_with fail
    go_loopg [3, 4, 5] 5 (ShowRel w1 n0)
    case atStart => exact ⟨0, ⟨#[]⟩, rfl, rfl, rfl, rfl, by omega, rfl, Below.refl _ _⟩
    case round =>
      obtain ⟨k, s, rfl, rfl, rfl, hs, hk, rfl, hbel⟩ := hrel
      have HS := Lib.hid hs
      have HB := Lib.hid hbel
      clear hs hbel
      by_cases hlt : k < 5
      · have hle := showTo_le n0 k
        have hln := showTo_len n0 hn2 k
        have hus := uN_size k
        have hk5 : (k : Int) < 5 := by omega
        have HST : Hid (showTo n0 (k + 1) = ((showTo n0 k).1 % uMs k, if 0 < (showTo n0 k).1 / uMs k then (showTo n0 k).2 ++ (Lib.itoa (((showTo n0 k).1 / uMs k : Nat) : Int) ++ (uN k).data.toList) else (showTo n0 k).2)) := rfl
        have hms := uMs_le k
        have hmp := uMs_pos k
        have US : Hid (∀ W, Calls Tryd.prog 26 #[.int .i64 (k : Nat)] W fun e w' => e = .returned (.int .i64 (uMs k : Nat)) ∧ Below W.heap.size W w') := fun W => unitSize_any k hlt W
        have UN : Hid (∀ W, Calls Tryd.prog 27 #[.int .i64 (k : Nat)] W fun e w' => e = .returned (.string (uN k)) ∧ Below W.heap.size W w') := fun W => unitName_any k hlt W
        generalize (showTo n0 k).1 = x at *
        generalize (showTo n0 k).2 = l at *
        generalize uN k = un at *
        generalize uMs k = ms at *
        have hne : ((ms : Int) == 0) = false := by rw [beq_eq_false_iff_ne]; omega
        have hnz : ¬ (ms : Int) = 0 := by omega
        have hdle := Nat.div_le_self x ms
        have hdv : (x : Int) / (ms : Int) = ((x / ms : Nat) : Int) := by exact_mod_cast rfl
        have hd0 : wrap64 ((x : Int) / (ms : Int)) = ((x / ms : Nat) : Int) := by
          rw [hdv]
          generalize x / ms = q at *
          exact wrap_in (by omega) (by omega)
        have hd1 : wrap64 ((x / ms : Nat) : Int) = ((x / ms : Nat) : Int) := by
          generalize x / ms = q at *
          exact wrap_in (by omega) (by omega)
        have hm0 : (x : Int) % (ms : Int) = ((x % ms : Nat) : Int) := by exact_mod_cast rfl
        generalize x / ms = q at *
        generalize x % ms = r at *
        have HDV := Lib.hid hdv
        clear hdv
        go_wp2_with fail
        refine (US.out _).mono ?_
        rintro e w2 ⟨rfl, hb⟩
        have HB2 := Lib.hid (HB.out.trans (hb.mono HB.out.size))
        clear hb
        by_cases hq : 0 < q
        · rw [if_pos hq] at HST
          have hq1 : ((q : Nat) : Int) > 0 := by omega
          go_wp2_with fail
          refine (US.out _).mono ?_
          rintro e w3 ⟨rfl, hb⟩
          have HB3 := Lib.hid (HB2.out.trans (hb.mono HB2.out.size))
          clear hb
          go_wp2_with fail
          rw [HDV.out]
          refine (decimal_any q (by omega) _).mono ?_
          rintro e w4 ⟨t, rfl, ht, hb⟩
          have HB4 := Lib.hid (HB3.out.trans (hb.mono HB3.out.size))
          have hl := itoa_len q (by omega)
          rw [← ht, ← Lib.size_eq] at hl
          have HT := Lib.hid ht
          clear hb ht
          have hsz : s.size ≤ 90 := by rw [Lib.size_eq, HS.out]; omega
          have q8 : ¬ 9223372036854775807 < s.size + t.size := by omega
          have q9 : ¬ 9223372036854775807 < s.size + t.size + un.size := by omega
          go_wp2_with fail
          refine (UN.out _).mono ?_
          rintro e w5 ⟨rfl, hb⟩
          have HB5 := Lib.hid (HB4.out.trans (hb.mono HB4.out.size))
          clear hb
          go_wp2_with fail
          refine (US.out _).mono ?_
          rintro e w6 ⟨rfl, hb⟩
          have HB6 := Lib.hid (HB5.out.trans (hb.mono HB5.out.size))
          clear hb
          go_wp2_with fail
          go_roundg (5 - (k + 1))
          case measure => omega
          case rel => exact ⟨k + 1, _, by go_num, by rw [HST.out, hm0], rfl, by rw [HST.out, str_app, str_app, HS.out, HT.out]; simp, by omega, rfl, HB6.out⟩
        · rw [if_neg hq] at HST
          have hq0 : q = 0 := by omega
          subst hq0
          have hq1 : ¬ ((0 : Nat) : Int) > 0 := by omega
          have hq2 : ¬ (0 : Int) < 0 := by omega
          go_wp2_with fail
          refine (US.out _).mono ?_
          rintro e w6 ⟨rfl, hb⟩
          have HB6 := Lib.hid (HB2.out.trans (hb.mono HB2.out.size))
          clear hb
          go_wp2_with fail
          go_roundg (5 - (k + 1))
          case measure => omega
          case rel => exact ⟨k + 1, s, by go_num, by rw [HST.out, hm0], rfl, by rw [HST.out]; exact HS.out, by omega, rfl, HB6.out⟩
      · have hk5 : k = 5 := by omega
        subst hk5
        go_wp2_with fail
        go_ret
        exact ⟨_, rfl, by rw [HF.out]; exact HS.out, HB.out⟩
end Go.Proofs.YtbhhjaflinfnfaaDoor
