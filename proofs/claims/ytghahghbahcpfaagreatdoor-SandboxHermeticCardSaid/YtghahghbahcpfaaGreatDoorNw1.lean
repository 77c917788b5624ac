/- The walks over runs of digits, cmp.Compare at three types. -/
import Derived.Test.YtghahghbahcpfaaGreatDoorVa2
namespace Go.Proofs.YtghahghbahcpfaaGreatDoor
open Go.RowKit

def RunRel (w1 : World) (l : Bs) (i0 : Nat) (f : Nat) (t3 : Value) (wr : World) : Prop :=
  ∃ k : Nat, t3 = .int .i64 (i0 + k : Nat) ∧ i0 + k ≤ l.length ∧ f = l.length - (i0 + k) ∧ (∀ j, j < k → digF ((l.drop i0).getD j 0) = true) ∧ wr = w1
set_option maxRecDepth 100000 in
set_option maxHeartbeats 1600000 in
theorem run_any (s : ByteArray) (hs : s.size ≤ 9223372036854775807) (w : World) : Calls Tryz.prog 138 #[.string s] w fun e w' => e = .returned (.int .i64 (runN s.data.toList : Nat)) ∧ w' = w := by
  have HS := Lib.hid (Lib.size_eq s)
  go_enter Tryz.func138, Tryz.ntmps138
  go_wp2_with fail
  go_loopg [3] s.data.toList.length (RunRel w s.data.toList 0)
  case atStart => exact ⟨0, rfl, Nat.zero_le _, rfl, fun j hj => by omega, rfl⟩
  case round =>
    obtain ⟨k, rfl, hk, rfl, hall, rfl⟩ := hrel
    rw [Nat.zero_add] at *
    have HALL := Lib.hid hall
    rw [← HS.out] at hk
    clear hall
    by_cases hlt : k < s.size
    · have hat := str_at (s := s) rfl k hlt
      have hii : (k : Int) < (s.size : Int) := by omega
      generalize hc : s.data.toList.getD k 0 = c at hat
      have HC := Lib.hid hc
      clear hc
      go_wp2_with fail
      refine (digit_any _ _).mono ?_
      rintro e w1 ⟨rfl, rfl⟩
      cases hd : digF c with
      | true =>
        have HD : Hid (digF (s.data.toList.getD k 0) = true) := by unfold Hid; rw [HC.out]; exact hd
        clear hd
        go_wp2_with fail
        go_roundg (s.data.toList.length - (k + 1))
        case measure => have := HS.out; omega
        case rel => exact ⟨k + 1, by go_num, by have := HS.out; omega, by rw [Nat.zero_add], fun j hj => by
          by_cases h : j = k
          · subst h; exact HD.out
          · exact HALL.out j (by omega), rfl⟩
      | false =>
        have HR : Hid (runN s.data.toList = k) := run_stop _ k (by rw [← HS.out]; omega) HALL.out (.inr (by rw [HC.out]; exact hd))
        clear hd
        go_wp2_with fail
        go_ret
        exact ⟨by rw [HR.out]; rfl, rfl⟩
    · have hii : ¬ (k : Int) < (s.size : Int) := by omega
      have HR : Hid (runN s.data.toList = k) := run_stop _ k (by rw [← HS.out]; omega) HALL.out (.inl (by rw [← HS.out]; omega))
      go_wp2_with fail
      go_ret
      exact ⟨by rw [HR.out]; rfl, rfl⟩

set_option maxRecDepth 100000 in
theorem nanI_any (x : Value) (k : Int) (hx : x = .int .i64 k) (w : World) : Calls Tryz.prog 170 #[x] w fun e w' => e = .returned (.bool false) ∧ w' = w := by
  subst hx
  go_enter Tryz.func170, Tryz.ntmps170
  go_wp2_with fail
  go_ret
  exact ⟨rfl, rfl⟩
set_option maxRecDepth 100000 in
theorem nanB_any (k : Int) (w : World) : Calls Tryz.prog 169 #[.int .u8 k] w fun e w' => e = .returned (.bool false) ∧ w' = w := by
  go_enter Tryz.func169, Tryz.ntmps169
  go_wp2_with fail
  go_ret
  exact ⟨rfl, rfl⟩
set_option maxRecDepth 100000 in
theorem nanS_any (s : ByteArray) (w : World) : Calls Tryz.prog 187 #[.string s] w fun e w' => e = .returned (.bool false) ∧ w' = w := by
  go_enter Tryz.func187, Tryz.ntmps187
  go_wp2_with fail
  go_ret
  exact ⟨rfl, rfl⟩

set_option maxRecDepth 100000 in
theorem cmpI_any (x y : Nat) (w : World) : Calls Tryz.prog 141 #[.int .i64 (x : Nat), .int .i64 (y : Nat)] w fun e w' => e = .returned (.int .i64 (cmpN x y)) ∧ w' = w := by
  have HC : Hid (cmpN x y = if x < y then -1 else if y < x then 1 else 0) := rfl
  go_enter Tryz.func141, Tryz.ntmps141
  go_wp2_with fail
  refine (nanI_any _ _ rfl w).mono ?_
  rintro e w1 ⟨rfl, rfl⟩
  go_wp2_with fail
  refine (nanI_any _ _ rfl w1).mono ?_
  rintro e w2 ⟨rfl, rfl⟩
  by_cases h1 : x < y
  · have t1 : (x : Int) < (y : Int) := by omega
    rw [if_pos h1] at HC
    go_wp2_with fail
    go_ret
    exact ⟨by rw [HC.out]; rfl, rfl⟩
  · rw [if_neg h1] at HC
    have t1 : ¬ (x : Int) < (y : Int) := by omega
    by_cases h2 : y < x
    · have t2 : (y : Int) < (x : Int) := by omega
      rw [if_pos h2] at HC
      go_wp2_with fail
      go_ret
      exact ⟨by rw [HC.out]; rfl, rfl⟩
    · have t2 : ¬ (y : Int) < (x : Int) := by omega
      rw [if_neg h2] at HC
      go_wp2_with fail
      go_ret
      exact ⟨by rw [HC.out]; rfl, rfl⟩

set_option maxRecDepth 100000 in
theorem cmpB_any (x y : Nat) (w : World) : Calls Tryz.prog 140 #[.int .u8 (x : Nat), .int .u8 (y : Nat)] w fun e w' => e = .returned (.int .i64 (cmpN x y)) ∧ w' = w := by
  have HC : Hid (cmpN x y = if x < y then -1 else if y < x then 1 else 0) := rfl
  go_enter Tryz.func140, Tryz.ntmps140
  go_wp2_with fail
  refine (nanB_any _ w).mono ?_
  rintro e w1 ⟨rfl, rfl⟩
  go_wp2_with fail
  refine (nanB_any _ w1).mono ?_
  rintro e w2 ⟨rfl, rfl⟩
  by_cases h1 : x < y
  · have t1 : (x : Int) < (y : Int) := by omega
    rw [if_pos h1] at HC
    go_wp2_with fail
    go_ret
    exact ⟨by rw [HC.out]; rfl, rfl⟩
  · rw [if_neg h1] at HC
    have t1 : ¬ (x : Int) < (y : Int) := by omega
    by_cases h2 : y < x
    · have t2 : (y : Int) < (x : Int) := by omega
      rw [if_pos h2] at HC
      go_wp2_with fail
      go_ret
      exact ⟨by rw [HC.out]; rfl, rfl⟩
    · have t2 : ¬ (y : Int) < (x : Int) := by omega
      rw [if_neg h2] at HC
      go_wp2_with fail
      go_ret
      exact ⟨by rw [HC.out]; rfl, rfl⟩

theorem less_lt (x y : ByteArray) : Op.bytesLess x.toList y.toList = true ↔ cmpS x.data.toList y.data.toList = -1 := by
  rw [cmpS_lt, Proofs.bytesLess_eq, Lib.toList_data, Lib.toList_data]
  simp
theorem same_eq (x y : ByteArray) : (x.toList == y.toList) = true ↔ cmpS x.data.toList y.data.toList = 0 := by
  rw [beq_iff_eq, Lib.toList_data, Lib.toList_data]
  constructor
  · intro h; rw [h]; exact cmpS_po.refl _
  · exact cmpS_eq
/-- the three ways in which strings lie -/
theorem cmpS_cases (x y : ByteArray) : (Op.bytesLess x.toList y.toList = true ∧ cmpS x.data.toList y.data.toList = -1 ∧ (x.toList == y.toList) = false) ∨ (Op.bytesLess x.toList y.toList = false ∧ (x.toList == y.toList) = true ∧ cmpS x.data.toList y.data.toList = 0) ∨
    (Op.bytesLess x.toList y.toList = false ∧ (x.toList == y.toList) = false ∧ cmpS x.data.toList y.data.toList = 1) := by
  rcases cmpS_po.rng x.data.toList y.data.toList with h | h | h
  · refine .inl ⟨(less_lt x y).2 h, h, ?_⟩
    rw [Bool.eq_false_iff]; intro k; have := (same_eq x y).1 k; omega
  · refine .inr (.inl ⟨?_, (same_eq x y).2 h, h⟩)
    rw [Bool.eq_false_iff]; intro k; have := (less_lt x y).1 k; omega
  · refine .inr (.inr ⟨?_, ?_, h⟩)
    · rw [Bool.eq_false_iff]; intro k; have := (less_lt x y).1 k; omega
    · rw [Bool.eq_false_iff]; intro k; have := (same_eq x y).1 k; omega

set_option maxRecDepth 100000 in
theorem cmpS_any (x y : ByteArray) (w : World) : Calls Tryz.prog 168 #[.string x, .string y] w fun e w' => e = .returned (.int .i64 (cmpS x.data.toList y.data.toList)) ∧ w' = w := by
  go_enter Tryz.func168, Tryz.ntmps168
  go_wp2_with fail
  refine (nanS_any _ w).mono ?_
  rintro e w1 ⟨rfl, rfl⟩
  go_wp2_with fail
  refine (nanS_any _ w1).mono ?_
  rintro e w2 ⟨rfl, rfl⟩
  rcases cmpS_cases x y with ⟨t1, hc, _⟩ | ⟨t1, t2, hc⟩ | ⟨t1, t2, hc⟩
  · have HC := Lib.hid hc
    clear hc
    go_wp2_with fail
    go_ret
    exact ⟨by rw [HC.out]; rfl, rfl⟩
  · have HC := Lib.hid hc
    have t3 : (!x.toList == y.toList) = false := by rw [t2]; rfl
    clear hc t2
    go_wp2_with fail
    go_ret
    exact ⟨by rw [HC.out]; rfl, rfl⟩
  · have HC := Lib.hid hc
    have t3 : (!x.toList == y.toList) = true := by rw [t2]; rfl
    clear hc t2
    go_wp2_with fail
    go_ret
    exact ⟨by rw [HC.out]; rfl, rfl⟩

/-- the first that is not zero -/
def orF (a b c : Int) : Int := if a = 0 then (if b = 0 then c else b) else a

set_option maxRecDepth 100000 in
set_option maxHeartbeats 1600000 in
theorem or_any (a b c : Int) (g cap : Nat) (w : World) (h0 : w.cell? ⟨g, 0, none⟩ = some (.int .i64 a)) (h1 : w.cell? ⟨g, 1, none⟩ = some (.int .i64 b)) (h2 : w.cell? ⟨g, 2, none⟩ = some (.int .i64 c)) :
    Calls Tryz.prog 167 #[.slice (some ⟨g, 0, none⟩) 3 cap] w fun e w' => e = .returned (.int .i64 (orF a b c)) ∧ w' = w := by
  have HO : Hid (orF a b c = if a = 0 then (if b = 0 then c else b) else a) := rfl
  go_enter Tryz.func167, Tryz.ntmps167
  go_wp2_with fail
  go_loopg [8] 3 (fun f t8 wr => wr = w ∧ ((f = 3 ∧ t8 = .int .i64 0) ∨ (f = 2 ∧ t8 = .int .i64 1 ∧ a = 0) ∨ (f = 1 ∧ t8 = .int .i64 2 ∧ a = 0 ∧ b = 0) ∨ (f = 0 ∧ t8 = .int .i64 3 ∧ a = 0 ∧ b = 0 ∧ c = 0)))
  case atStart => exact ⟨rfl, .inl ⟨rfl, rfl⟩⟩
  case round =>
    obtain ⟨rfl, ⟨rfl, rfl⟩ | ⟨rfl, rfl, rfl⟩ | ⟨rfl, rfl, rfl, rfl⟩ | ⟨rfl, rfl, rfl, rfl, rfl⟩⟩ := hrel
    · by_cases ha : a = 0
      · subst ha
        go_wp2_with fail
        go_roundg 2
        case measure => omega
        case rel => exact ⟨rfl, .inr (.inl (by simp))⟩
      · have ta : (a != 0) = true := by rw [bne_iff_ne]; exact ha
        rw [if_neg ha] at HO
        clear ha
        go_wp2_with fail
        go_ret
        exact ⟨by rw [HO.out]; rfl, rfl⟩
    · by_cases hb : b = 0
      · subst hb
        go_wp2_with fail
        go_roundg 1
        case measure => omega
        case rel => exact ⟨rfl, .inr (.inr (.inl (by simp)))⟩
      · have ta : (b != 0) = true := by rw [bne_iff_ne]; exact hb
        rw [if_pos rfl, if_neg hb] at HO
        clear hb
        go_wp2_with fail
        go_ret
        exact ⟨by rw [HO.out]; rfl, rfl⟩
    · rw [if_pos rfl, if_pos rfl] at HO
      by_cases hc : c = 0
      · subst hc
        go_wp2_with fail
        go_roundg 0
        case measure => omega
        case rel => exact ⟨rfl, .inr (.inr (.inr (by simp)))⟩
      · have ta : (c != 0) = true := by rw [bne_iff_ne]; exact hc
        clear hc
        go_wp2_with fail
        go_ret
        exact ⟨by rw [HO.out]; rfl, rfl⟩
    · go_wp2_with fail
      go_ret
      exact ⟨by rw [HO.out]; rfl, rfl⟩
end Go.Proofs.YtghahghbahcpfaaGreatDoor
