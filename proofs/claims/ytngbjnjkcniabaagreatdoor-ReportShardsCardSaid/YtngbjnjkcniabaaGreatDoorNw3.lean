/- The walks over the reference's Compare. -/
import Derived.Test.YtngbjnjkcniabaaGreatDoorNw2
import Derived.Test.YtngbjnjkcniabaaGreatDoorNw1r
namespace Go.Proofs.YtngbjnjkcniabaaGreatDoor
open Go.RowKit

def ordF (x y : Bool) : Int := if x then -1 else if y then 1 else 0
theorem ordF_nat (x y : Nat) : ordF (decide (x < y)) (decide (y < x)) = cmpN x y := by
  unfold cmpN ordF
  simp

set_option maxRecDepth 100000 in
theorem norder_any (x y : Bool) (w : World) : Calls Tryz.prog 84 #[.bool x, .bool y] w fun e w' => e = .returned (.int .i64 (ordF x y)) ∧ w' = w := by
  go_enter Tryz.func84, Tryz.ntmps84
  cases x with
  | true =>
    go_wp2_with fail
    go_ret
    exact ⟨rfl, rfl⟩
  | false =>
    cases y with
    | true =>
      go_wp2_with fail
      go_ret
      exact ⟨rfl, rfl⟩
    | false =>
      go_wp2_with fail
      go_ret
      exact ⟨rfl, rfl⟩

def StrRel (w1 : World) (l : Bs) (f : Nat) (t3 : Value) (wr : World) : Prop :=
  ∃ k : Nat, t3 = .int .i64 (k : Nat) ∧ k ≤ l.length ∧ f = l.length - k ∧ (∀ j, j < k → l.getD j 0 = 48) ∧ wr = w1

set_option maxRecDepth 100000 in
set_option maxHeartbeats 1600000 in
theorem strip_any (s : ByteArray) (hs : s.size ≤ 9223372036854775807) (w : World) : Calls Tryz.prog 129 #[.string s] w fun e w' => e = .returned (.string ⟨(stripF s.data.toList).toArray⟩) ∧ w' = w := by
  have HS := Lib.hid (Lib.size_eq s)
  go_enter Tryz.func129, Tryz.ntmps129
  go_wp2_with fail
  go_loopg [3] s.data.toList.length (StrRel w s.data.toList)
  case atStart => exact ⟨0, rfl, Nat.zero_le _, rfl, fun j hj => by omega, rfl⟩
  case round =>
    obtain ⟨k, rfl, hk, rfl, hall, rfl⟩ := hrel
    have HALL := Lib.hid hall
    rw [← HS.out] at hk
    clear hall
    have fin : stripF s.data.toList = s.data.toList.drop k → (⟨(stripF s.data.toList).toArray⟩ : ByteArray) = s.extract k s.size := by
      intro h
      have e : (s.extract k s.size).data.toList = s.data.toList.drop k := by rw [Lib.extract_data, List.take_of_length_le (by rw [List.length_drop, ← HS.out]; omega)]
      rw [h, ← e, Lib.mk_data]
    have FIN := Lib.hid fin
    clear fin
    have q3 : ((k : Int)).toNat = k := by omega
    have q4 : (k : Int) ≤ (s.size : Int) := by omega
    by_cases hlt : k < s.size
    · have hat := str_at (s := s) rfl k hlt
      have hii : (k : Int) < (s.size : Int) := by omega
      generalize hc : s.data.toList.getD k 0 = c at hat
      have HC := Lib.hid hc
      clear hc
      by_cases hd : c.toNat = 48
      · have HD : Hid (s.data.toList.getD k 0 = 48) := by unfold Hid; rw [HC.out]; exact UInt8.toNat_inj.1 hd
        have t1 : ((c.toNat : Int) == 48) = true := by rw [hd]; rfl
        clear hd
        go_wp2_with fail
        go_roundg (s.data.toList.length - (k + 1))
        case measure => have := HS.out; omega
        case rel => exact ⟨k + 1, by go_num, by have := HS.out; omega, rfl, fun j hj => by
          by_cases h : j = k
          · subst h; exact HD.out
          · exact HALL.out j (by omega), rfl⟩
      · have HR : Hid (stripF s.data.toList = s.data.toList.drop k) := strip_stop _ k (by rw [← HS.out]; omega) HALL.out (.inr (by rw [HC.out]; intro h; rw [h] at hd; exact hd rfl))
        have t1 : ((c.toNat : Int) == 48) = false := by rw [beq_eq_false_iff_ne]; omega
        clear hd
        go_wp2_with fail
        go_ret
        exact ⟨by rw [FIN.out HR.out]; rfl, rfl⟩
    · have hii : ¬ (k : Int) < (s.size : Int) := by omega
      have HR : Hid (stripF s.data.toList = s.data.toList.drop k) := strip_stop _ k (by rw [← HS.out]; omega) HALL.out (.inl (by rw [← HS.out]; omega))
      go_wp2_with fail
      go_ret
      exact ⟨by rw [FIN.out HR.out]; rfl, rfl⟩

set_option maxRecDepth 100000 in
set_option maxHeartbeats 1600000 in
theorem runs_any (a b : ByteArray) (ha : a.size ≤ 9223372036854775807) (hb : b.size ≤ 9223372036854775807) (w : World) : Calls Tryz.prog 87 #[.string a, .string b] w fun e w' => e = .returned (.int .i64 (numF a.data.toList b.data.toList)) ∧ w' = w := by
  have HN := Lib.hid (numF_or a.data.toList b.data.toList)
  have HSA := Lib.hid (Lib.size_eq a)
  have HSB := Lib.hid (Lib.size_eq b)
  have hx : (⟨(stripF a.data.toList).toArray⟩ : ByteArray).size = (stripF a.data.toList).length := size_arr _
  have hy : (⟨(stripF b.data.toList).toArray⟩ : ByteArray).size = (stripF b.data.toList).length := size_arr _
  have HXD : Hid ((⟨(stripF a.data.toList).toArray⟩ : ByteArray).data.toList = stripF a.data.toList) := rfl
  have HYD : Hid ((⟨(stripF b.data.toList).toArray⟩ : ByteArray).data.toList = stripF b.data.toList) := rfl
  have TA : Hid (∀ W, Calls Tryz.prog 129 #[.string a] W fun e w' => e = .returned (.string ⟨(stripF a.data.toList).toArray⟩) ∧ w' = W) := fun W => strip_any a ha W
  have TB : Hid (∀ W, Calls Tryz.prog 129 #[.string b] W fun e w' => e = .returned (.string ⟨(stripF b.data.toList).toArray⟩) ∧ w' = W) := fun W => strip_any b hb W
  rw [← HSA.out, ← HSB.out, ← hx, ← hy, ← HXD.out, ← HYD.out] at HN
  clear HXD HYD hx hy HSA HSB
  generalize (⟨(stripF a.data.toList).toArray⟩ : ByteArray) = x at *
  generalize (⟨(stripF b.data.toList).toArray⟩ : ByteArray) = y at *
  go_enter Tryz.func87, Tryz.ntmps87
  go_wp2_with fail
  refine (TA.out w).mono ?_
  rintro e w1 ⟨rfl, rfl⟩
  go_wp2_with fail
  refine (TB.out w1).mono ?_
  rintro e w2 ⟨rfl, rfl⟩
  by_cases hne : x.size = y.size
  · have HC : Hid (cmpN x.size y.size = 0) := by unfold Hid; rw [hne]; exact cmpN_po.refl _
    have t1 : ((x.size : Int) != (y.size : Int)) = false := by simp; omega
    clear hne
    rcases cmpS_cases x y with ⟨t2, hc, t3⟩ | ⟨t2, t3, hc⟩ | ⟨t2, t3, hc⟩
    · have HD : Hid (numF a.data.toList b.data.toList = -1) := by unfold Hid; rw [HN.out, orF, if_pos HC.out, hc]; rfl
      have t4 : (!x.toList == y.toList) = true := by rw [t3]; rfl
      clear hc t3
      go_wp2_with fail
      refine (norder_any _ _ w2).mono ?_
      rintro e w3 ⟨rfl, rfl⟩
      go_wp2_with fail
      go_ret
      exact ⟨by rw [HD.out]; rfl, rfl⟩
    · have HD : Hid (numF a.data.toList b.data.toList = cmpN a.size b.size) := by unfold Hid; rw [HN.out, orF, if_pos HC.out, hc, if_pos rfl]
      have t4 : (!x.toList == y.toList) = false := by rw [t3]; rfl
      clear hc t3
      go_wp2_with fail
      refine (norder_any _ _ w2).mono ?_
      rintro e w3 ⟨rfl, rfl⟩
      go_wp2_with fail
      go_ret
      exact ⟨by rw [HD.out, ← ordF_nat]; rfl, rfl⟩
    · have HD : Hid (numF a.data.toList b.data.toList = 1) := by unfold Hid; rw [HN.out, orF, if_pos HC.out, hc]; rfl
      have t4 : (!x.toList == y.toList) = true := by rw [t3]; rfl
      clear hc t3
      go_wp2_with fail
      refine (norder_any _ _ w2).mono ?_
      rintro e w3 ⟨rfl, rfl⟩
      go_wp2_with fail
      go_ret
      exact ⟨by rw [HD.out]; rfl, rfl⟩
  · have HD : Hid (numF a.data.toList b.data.toList = cmpN x.size y.size) := by unfold Hid; rw [HN.out, orF, if_neg fun h => hne (cmpN_eq h)]
    have t1 : ((x.size : Int) != (y.size : Int)) = true := by rw [bne_iff_ne]; omega
    clear hne
    go_wp2_with fail
    refine (norder_any _ _ w2).mono ?_
    rintro e w3 ⟨rfl, rfl⟩
    go_wp2_with fail
    go_ret
    exact ⟨by rw [HD.out, ← ordF_nat]; rfl, rfl⟩

def RCmpRel (w1 : World) (l m : Bs) (f : Nat) (t5 t6 : Value) (wr : World) : Prop :=
  ∃ i k : Nat, t5 = .int .i64 (i : Nat) ∧ t6 = .int .i64 (k : Nat) ∧ f = l.length - i ∧ i ≤ l.length ∧ k ≤ m.length ∧ natC l m = natC (l.drop i) (m.drop k) ∧ Up w1 wr
theorem runN_drop (l : Bs) (i : Nat) (hi : i < l.length) : (0 < runN (l.drop i)) ↔ digF (l.getD i 0) = true := by
  have h : l.drop i ≠ [] := by
    intro e
    have := congrArg List.length e
    rw [List.length_drop] at this
    simp at this
    omega
  rw [runN_head h, getD_drop, Nat.add_zero]
end Go.Proofs.YtngbjnjkcniabaaGreatDoor
