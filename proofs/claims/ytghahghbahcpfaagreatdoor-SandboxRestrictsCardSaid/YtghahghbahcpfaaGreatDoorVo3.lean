/- The walks over the reference's digit and run. -/
import Derived.Test.YtghahghbahcpfaaGreatDoorNw1
import Derived.Test.YtghahghbahcpfaaGreatDoorNw2
import Derived.StillTailTactics
import Derived.Test.YtghahghbahcpfaaGreatDoorVs5
namespace Go.Proofs.YtghahghbahcpfaaGreatDoor
open Go.RowKit

set_option maxRecDepth 100000 in
theorem rdigit_any (c : UInt8) (w : World) : Calls Tryz.prog 78 #[.int .u8 (c.toNat : Nat)] w fun e w' => e = .returned (.bool (digF c)) ∧ w' = w := by
  have HD : Hid (digF c = (decide (48 ≤ c.toNat) && decide (c.toNat ≤ 57))) := rfl
  go_enter Tryz.func78, Tryz.ntmps78
  generalize c.toNat = n at *
  by_cases h1 : 48 ≤ n
  · by_cases h2 : n ≤ 57
    · have t1 : (48 : Int) ≤ (n : Int) := by omega
      have t2 : (n : Int) ≤ 57 := by omega
      have HD2 : Hid (digF c = true) := by unfold Hid; rw [HD.out]; simp [h1, h2]
      clear HD
      go_wp2_with fail
      go_ret
      exact ⟨by rw [HD2.out]; rfl, rfl⟩
    · have t1 : (48 : Int) ≤ (n : Int) := by omega
      have t2 : decide ((n : Int) ≤ 57) = false := by simp; omega
      have HD2 : Hid (digF c = false) := by unfold Hid; rw [HD.out]; simp; omega
      clear HD
      go_wp2_with fail
      go_ret
      exact ⟨by rw [HD2.out]; rfl, rfl⟩
  · have t1 : decide ((48 : Int) ≤ (n : Int)) = false := by simp; omega
    have HD2 : Hid (digF c = false) := by unfold Hid; rw [HD.out]; simp; omega
    clear HD
    go_wp2_with fail
    go_ret
    exact ⟨by rw [HD2.out]; rfl, rfl⟩

set_option maxRecDepth 100000 in
set_option maxHeartbeats 1600000 in
theorem rrun_any (s : ByteArray) (i m : Nat) (hm : i + runN (s.data.toList.drop i) = m) (hi : i ≤ s.size) (hs : s.size ≤ 9223372036854775807) (w : World) : Calls Tryz.prog 79 #[.string s, .int .i64 (i : Nat)] w fun e w' => e = .returned (.int .i64 (m : Nat)) ∧ w' = w := by
  have HM := Lib.hid hm
  clear hm
  have HS := Lib.hid (Lib.size_eq s)
  go_enter Tryz.func79, Tryz.ntmps79
  go_wp2_with fail
  go_loopg [1] (s.data.toList.length - i) (RunRel w s.data.toList i)
  case atStart => exact ⟨0, rfl, by rw [← HS.out]; omega, rfl, fun j hj => by omega, rfl⟩
  case round =>
    obtain ⟨k, rfl, hk, rfl, hall, rfl⟩ := hrel
    have HALL := Lib.hid hall
    rw [← HS.out] at hk
    have HL : Hid ((s.data.toList.drop i).length = s.size - i) := by unfold Hid; rw [List.length_drop, ← HS.out]
    clear hall
    generalize hn : i + k = n at *
    have HN := Lib.hid hn
    clear hn
    by_cases hlt : n < s.size
    · have hat := str_at (s := s) rfl n hlt
      have hii : (n : Int) < (s.size : Int) := by omega
      generalize hc : s.data.toList.getD n 0 = c at hat
      have HC : Hid ((s.data.toList.drop i).getD k 0 = c) := by unfold Hid; rw [getD_drop, HN.out, hc]
      clear hc
      go_wp2_with fail
      refine (rdigit_any _ _).mono ?_
      rintro e w1 ⟨rfl, rfl⟩
      cases hd : digF c with
      | true =>
        have HD : Hid (digF ((s.data.toList.drop i).getD k 0) = true) := by unfold Hid; rw [HC.out]; exact hd
        clear hd
        go_wp2_with fail
        go_roundg (s.data.toList.length - (n + 1))
        case measure => have := HS.out; omega
        case rel => exact ⟨k + 1, by have := HN.out; rw [← Nat.add_assoc, this]; go_num, by have := HS.out; have := HN.out; omega, by have := HN.out; rw [← Nat.add_assoc, this], fun j hj => by
          by_cases h : j = k
          · subst h; exact HD.out
          · exact HALL.out j (by omega), rfl⟩
      | false =>
        have HR : Hid (m = n) := by
          unfold Hid
          rw [← HM.out, run_stop _ k (by rw [HL.out]; have := HN.out; omega) HALL.out (.inr (by rw [HC.out]; exact hd))]
          exact HN.out
        clear hd
        go_wp2_with fail
        go_ret
        exact ⟨by rw [HR.out]; rfl, rfl⟩
    · have hii : ¬ (n : Int) < (s.size : Int) := by omega
      have HR : Hid (m = n) := by
        unfold Hid
        rw [← HM.out, run_stop _ k (by rw [HL.out]; have := HN.out; omega) HALL.out (.inl (by rw [HL.out]; have := HN.out; omega))]
        exact HN.out
      go_wp2_with fail
      go_ret
      exact ⟨by rw [HR.out]; rfl, rfl⟩

end Go.Proofs.YtghahghbahcpfaaGreatDoor
/- The walks over the reference's Compare. -/
namespace Go.Proofs.YtghahghbahcpfaaGreatDoor
open Go.RowKit

def ordF (x y : Bool) : Int := if x then -1 else if y then 1 else 0
theorem ordF_nat (x y : Nat) : ordF (decide (x < y)) (decide (y < x)) = cmpN x y := by
  unfold cmpN ordF
  simp

set_option maxRecDepth 100000 in
theorem norder_any (x y : Bool) (w : World) : Calls Tryz.prog 77 #[.bool x, .bool y] w fun e w' => e = .returned (.int .i64 (ordF x y)) ∧ w' = w := by
  go_enter Tryz.func77, Tryz.ntmps77
  cases x with
  | true =>
    go_wp2_with fail
    go_ret
    exact ⟨rfl, rfl⟩
  | false =>
    cases y with
    | true =>
      go_wp2_with fail
      go_ret
      exact ⟨rfl, rfl⟩
    | false =>
      go_wp2_with fail
      go_ret
      exact ⟨rfl, rfl⟩

def StrRel (w1 : World) (l : Bs) (f : Nat) (t3 : Value) (wr : World) : Prop :=
  ∃ k : Nat, t3 = .int .i64 (k : Nat) ∧ k ≤ l.length ∧ f = l.length - k ∧ (∀ j, j < k → l.getD j 0 = 48) ∧ wr = w1

set_option maxRecDepth 100000 in
set_option maxHeartbeats 1600000 in
theorem strip_any (s : ByteArray) (hs : s.size ≤ 9223372036854775807) (w : World) : Calls Tryz.prog 117 #[.string s] w fun e w' => e = .returned (.string ⟨(stripF s.data.toList).toArray⟩) ∧ w' = w := by
  have HS := Lib.hid (Lib.size_eq s)
  go_enter Tryz.func117, Tryz.ntmps117
  go_wp2_with fail
  go_loopg [3] s.data.toList.length (StrRel w s.data.toList)
  case atStart => exact ⟨0, rfl, Nat.zero_le _, rfl, fun j hj => by omega, rfl⟩
  case round =>
    obtain ⟨k, rfl, hk, rfl, hall, rfl⟩ := hrel
    have HALL := Lib.hid hall
    rw [← HS.out] at hk
    clear hall
    have fin : stripF s.data.toList = s.data.toList.drop k → (⟨(stripF s.data.toList).toArray⟩ : ByteArray) = s.extract k s.size := by
      intro h
      have e : (s.extract k s.size).data.toList = s.data.toList.drop k := by rw [Lib.extract_data, List.take_of_length_le (by rw [List.length_drop, ← HS.out]; omega)]
      rw [h, ← e, Lib.mk_data]
    have FIN := Lib.hid fin
    clear fin
    have q3 : ((k : Int)).toNat = k := by omega
    have q4 : (k : Int) ≤ (s.size : Int) := by omega
    by_cases hlt : k < s.size
    · have hat := str_at (s := s) rfl k hlt
      have hii : (k : Int) < (s.size : Int) := by omega
      generalize hc : s.data.toList.getD k 0 = c at hat
      have HC := Lib.hid hc
      clear hc
      by_cases hd : c.toNat = 48
      · have HD : Hid (s.data.toList.getD k 0 = 48) := by unfold Hid; rw [HC.out]; exact UInt8.toNat_inj.1 hd
        have t1 : ((c.toNat : Int) == 48) = true := by rw [hd]; rfl
        clear hd
        go_wp2_with fail
        go_roundg (s.data.toList.length - (k + 1))
        case measure => have := HS.out; omega
        case rel => exact ⟨k + 1, by go_num, by have := HS.out; omega, rfl, fun j hj => by
          by_cases h : j = k
          · subst h; exact HD.out
          · exact HALL.out j (by omega), rfl⟩
      · have HR : Hid (stripF s.data.toList = s.data.toList.drop k) := strip_stop _ k (by rw [← HS.out]; omega) HALL.out (.inr (by rw [HC.out]; intro h; rw [h] at hd; exact hd rfl))
        have t1 : ((c.toNat : Int) == 48) = false := by rw [beq_eq_false_iff_ne]; omega
        clear hd
        go_wp2_with fail
        go_ret
        exact ⟨by rw [FIN.out HR.out]; rfl, rfl⟩
    · have hii : ¬ (k : Int) < (s.size : Int) := by omega
      have HR : Hid (stripF s.data.toList = s.data.toList.drop k) := strip_stop _ k (by rw [← HS.out]; omega) HALL.out (.inl (by rw [← HS.out]; omega))
      go_wp2_with fail
      go_ret
      exact ⟨by rw [FIN.out HR.out]; rfl, rfl⟩

set_option maxRecDepth 100000 in
set_option maxHeartbeats 1600000 in
theorem runs_any (a b : ByteArray) (ha : a.size ≤ 9223372036854775807) (hb : b.size ≤ 9223372036854775807) (w : World) : Calls Tryz.prog 80 #[.string a, .string b] w fun e w' => e = .returned (.int .i64 (numF a.data.toList b.data.toList)) ∧ w' = w := by
  have HN := Lib.hid (numF_or a.data.toList b.data.toList)
  have HSA := Lib.hid (Lib.size_eq a)
  have HSB := Lib.hid (Lib.size_eq b)
  have hx : (⟨(stripF a.data.toList).toArray⟩ : ByteArray).size = (stripF a.data.toList).length := size_arr _
  have hy : (⟨(stripF b.data.toList).toArray⟩ : ByteArray).size = (stripF b.data.toList).length := size_arr _
  have HXD : Hid ((⟨(stripF a.data.toList).toArray⟩ : ByteArray).data.toList = stripF a.data.toList) := rfl
  have HYD : Hid ((⟨(stripF b.data.toList).toArray⟩ : ByteArray).data.toList = stripF b.data.toList) := rfl
  have TA : Hid (∀ W, Calls Tryz.prog 117 #[.string a] W fun e w' => e = .returned (.string ⟨(stripF a.data.toList).toArray⟩) ∧ w' = W) := fun W => strip_any a ha W
  have TB : Hid (∀ W, Calls Tryz.prog 117 #[.string b] W fun e w' => e = .returned (.string ⟨(stripF b.data.toList).toArray⟩) ∧ w' = W) := fun W => strip_any b hb W
  rw [← HSA.out, ← HSB.out, ← hx, ← hy, ← HXD.out, ← HYD.out] at HN
  clear HXD HYD hx hy HSA HSB
  generalize (⟨(stripF a.data.toList).toArray⟩ : ByteArray) = x at *
  generalize (⟨(stripF b.data.toList).toArray⟩ : ByteArray) = y at *
  go_enter Tryz.func80, Tryz.ntmps80
  go_wp2_with fail
  refine (TA.out w).mono ?_
  rintro e w1 ⟨rfl, rfl⟩
  go_wp2_with fail
  refine (TB.out w1).mono ?_
  rintro e w2 ⟨rfl, rfl⟩
  by_cases hne : x.size = y.size
  · have HC : Hid (cmpN x.size y.size = 0) := by unfold Hid; rw [hne]; exact cmpN_po.refl _
    have t1 : ((x.size : Int) != (y.size : Int)) = false := by simp; omega
    clear hne
    rcases cmpS_cases x y with ⟨t2, hc, t3⟩ | ⟨t2, t3, hc⟩ | ⟨t2, t3, hc⟩
    · have HD : Hid (numF a.data.toList b.data.toList = -1) := by unfold Hid; rw [HN.out, orF, if_pos HC.out, hc]; rfl
      have t4 : (!x.toList == y.toList) = true := by rw [t3]; rfl
      clear hc t3
      go_wp2_with fail
      refine (norder_any _ _ w2).mono ?_
      rintro e w3 ⟨rfl, rfl⟩
      go_wp2_with fail
      go_ret
      exact ⟨by rw [HD.out]; rfl, rfl⟩
    · have HD : Hid (numF a.data.toList b.data.toList = cmpN a.size b.size) := by unfold Hid; rw [HN.out, orF, if_pos HC.out, hc, if_pos rfl]
      have t4 : (!x.toList == y.toList) = false := by rw [t3]; rfl
      clear hc t3
      go_wp2_with fail
      refine (norder_any _ _ w2).mono ?_
      rintro e w3 ⟨rfl, rfl⟩
      go_wp2_with fail
      go_ret
      exact ⟨by rw [HD.out, ← ordF_nat]; rfl, rfl⟩
    · have HD : Hid (numF a.data.toList b.data.toList = 1) := by unfold Hid; rw [HN.out, orF, if_pos HC.out, hc]; rfl
      have t4 : (!x.toList == y.toList) = true := by rw [t3]; rfl
      clear hc t3
      go_wp2_with fail
      refine (norder_any _ _ w2).mono ?_
      rintro e w3 ⟨rfl, rfl⟩
      go_wp2_with fail
      go_ret
      exact ⟨by rw [HD.out]; rfl, rfl⟩
  · have HD : Hid (numF a.data.toList b.data.toList = cmpN x.size y.size) := by unfold Hid; rw [HN.out, orF, if_neg fun h => hne (cmpN_eq h)]
    have t1 : ((x.size : Int) != (y.size : Int)) = true := by rw [bne_iff_ne]; omega
    clear hne
    go_wp2_with fail
    refine (norder_any _ _ w2).mono ?_
    rintro e w3 ⟨rfl, rfl⟩
    go_wp2_with fail
    go_ret
    exact ⟨by rw [HD.out, ← ordF_nat]; rfl, rfl⟩

def RCmpRel (w1 : World) (l m : Bs) (f : Nat) (t5 t6 : Value) (wr : World) : Prop :=
  ∃ i k : Nat, t5 = .int .i64 (i : Nat) ∧ t6 = .int .i64 (k : Nat) ∧ f = l.length - i ∧ i ≤ l.length ∧ k ≤ m.length ∧ natC l m = natC (l.drop i) (m.drop k) ∧ Up w1 wr
theorem runN_drop (l : Bs) (i : Nat) (hi : i < l.length) : (0 < runN (l.drop i)) ↔ digF (l.getD i 0) = true := by
  have h : l.drop i ≠ [] := by
    intro e
    have := congrArg List.length e
    rw [List.length_drop] at this
    simp at this
    omega
  rw [runN_head h, getD_drop, Nat.add_zero]
end Go.Proofs.YtghahghbahcpfaaGreatDoor
/- The walk over the reference's Compare. -/
namespace Go.Proofs.YtghahghbahcpfaaGreatDoor
open Go.RowKit

theorem extract_mid (a : ByteArray) (i r : Nat) : (a.extract i (i + r)).data.toList = (a.data.toList.drop i).take r := by
  rw [Lib.extract_data, show i + r - i = r by omega]

theorem nat_end2 {l m : Bs} {i k : Nat} (h : i = l.length ∨ k = m.length) (hi : i ≤ l.length) (hk : k ≤ m.length) : natC (l.drop i) (m.drop k) = ordF (decide (k < m.length)) (decide (i < l.length)) := by
  rw [natC_end (by
    rcases h with h | h
    · left; rw [h, List.drop_length]
    · right; rw [h, List.drop_length]), List.length_drop, List.length_drop]
  unfold cmpN ordF
  rcases h with rfl | rfl
  · by_cases h1 : k < m.length
    · rw [if_pos (by omega), decide_eq_true h1]; rfl
    · rw [if_neg (by omega), if_neg (by omega), decide_eq_false h1, decide_eq_false (Nat.lt_irrefl _)]; rfl
  · by_cases h1 : i < l.length
    · rw [if_neg (by omega), if_pos (by omega), decide_eq_true h1, decide_eq_false (Nat.lt_irrefl _)]; rfl
    · rw [if_neg (by omega), if_neg (by omega), decide_eq_false h1, decide_eq_false (Nat.lt_irrefl _)]; rfl

set_option maxRecDepth 100000 in
set_option maxHeartbeats 3200000 in
theorem rcompare_any (a b : ByteArray) (hsa : a.size ≤ 9223372036854775807) (hsb : b.size ≤ 9223372036854775807) (w : World) : Calls Tryz.prog 56 #[.string a, .string b] w fun e w' => e = .returned (.int .i64 (natC a.data.toList b.data.toList)) ∧ Up w w' := by
  have HSA := Lib.hid (Lib.size_eq a)
  have HSB := Lib.hid (Lib.size_eq b)
  go_enter Tryz.func56, Tryz.ntmps56
  go_wp2_with fail
  go_loopg [5, 6] a.data.toList.length (RCmpRel w a.data.toList b.data.toList)
  case atStart => exact ⟨0, 0, rfl, rfl, rfl, Nat.zero_le _, Nat.zero_le _, rfl, Up.refl _⟩
  case round =>
    obtain ⟨i, k, rfl, rfl, rfl, hi, hk, hn, hup⟩ := hrel
    have HN := Lib.hid hn
    have HU := Lib.hid hup
    have HE := Lib.hid (fun h => nat_end2 (l := a.data.toList) (m := b.data.toList) h hi hk)
    rw [← HSA.out] at hi
    rw [← HSB.out] at hk
    rw [← HSA.out, ← HSB.out] at HE
    clear hn hup
    by_cases hlt : i < a.size ∧ k < b.size
    · obtain ⟨hlt1, hlt2⟩ := hlt
      have hii : (i : Int) < (a.size : Int) := by omega
      have hkk : (k : Int) < (b.size : Int) := by omega
      have hat := str_at (s := a) rfl i hlt1
      have hbt := str_at (s := b) rfl k hlt2
      have HRA := Lib.hid (runN_drop a.data.toList i (by rw [← HSA.out]; exact hlt1))
      have HRB := Lib.hid (runN_drop b.data.toList k (by rw [← HSB.out]; exact hlt2))
      have hla := runN_le (a.data.toList.drop i)
      have hlb := runN_le (b.data.toList.drop k)
      rw [List.length_drop, ← HSA.out] at hla
      rw [List.length_drop, ← HSB.out] at hlb
      have HD := Lib.hid (fun h0 h1 => nat_dig (a := a.data.toList.drop i) (b := b.data.toList.drop k) h0 h1)
      have hne1 : a.data.toList.drop i ≠ [] := by
        intro e; have := congrArg List.length e; rw [List.length_drop, ← HSA.out] at this; simp at this; omega
      have hne2 : b.data.toList.drop k ≠ [] := by
        intro e; have := congrArg List.length e; rw [List.length_drop, ← HSB.out] at this; simp at this; omega
      have HO := Lib.hid (fun h => nat_one (a := a.data.toList.drop i) (b := b.data.toList.drop k) hne1 hne2 h)
      clear hne1 hne2
      have RA : Hid (∀ m, i + runN (a.data.toList.drop i) = m → ∀ W, Calls Tryz.prog 79 #[.string a, .int .i64 (i : Nat)] W fun e w' => e = .returned (.int .i64 (m : Nat)) ∧ w' = W) := fun m hm W => rrun_any a i m hm (by omega) hsa W
      have RB : Hid (∀ m, k + runN (b.data.toList.drop k) = m → ∀ W, Calls Tryz.prog 79 #[.string b, .int .i64 (k : Nat)] W fun e w' => e = .returned (.int .i64 (m : Nat)) ∧ w' = W) := fun m hm W => rrun_any b k m hm (by omega) hsb W
      rw [getD_drop, getD_drop, Nat.add_zero, Nat.add_zero] at HO
      generalize a.data.toList.getD i 0 = c at hat HO HRA
      generalize b.data.toList.getD k 0 = d at hbt HO HRB
      have hU := HU.out
      have OR : Hid (∀ W, Up w W → Calls Tryz.prog 77 #[.bool (decide (c.toNat < d.toNat)), .bool (decide (d.toNat < c.toNat))] W fun e w' => e = .returned (.int .i64 (cmpN c.toNat d.toNat)) ∧ Up w w') := fun W hW => (norder_any _ _ W).mono (by
        rintro e w' ⟨he, rfl⟩
        rw [ordF_nat] at he
        exact ⟨he, hW⟩)
      go_upto_region 3 with fail
      go_still_tail 14, (by kernel_rfl)
      change wpList _ _ _ _ _ (World.drew _)
      go_wp2_with fail
      refine (OR.out _ hU.drew).mono ?_
      rintro e wA ⟨rfl, hbA⟩
      clear OR
      by_cases hdd : digF c = true ∧ digF d = true
      · obtain ⟨hd1, hd2⟩ := hdd
        have H1 := Lib.hid (HRA.out.2 hd1)
        have H2 := Lib.hid (HRB.out.2 hd2)
        have HD2 := Lib.hid (HD.out H1.out H2.out)
        rw [List.drop_drop, List.drop_drop, ← extract_mid, ← extract_mid] at HD2
        obtain ⟨m, hm⟩ : ∃ m, i + runN (a.data.toList.drop i) = m := ⟨_, rfl⟩
        obtain ⟨n, hn⟩ : ∃ n, k + runN (b.data.toList.drop k) = n := ⟨_, rfl⟩
        have RA2 := Lib.hid (RA.out m hm)
        have RB2 := Lib.hid (RB.out n hn)
        have hm1 : i < m := by have := H1.out; omega
        have hm2 : m ≤ a.size := by omega
        have hn1 : k < n := by have := H2.out; omega
        have hn2 : n ≤ b.size := by omega
        rw [hm, hn] at HD2
        have q1 : (i : Int) ≤ (m : Int) := by omega
        have q2 : (m : Int) ≤ (a.size : Int) := by omega
        have r1 : (k : Int) ≤ (n : Int) := by omega
        have r2 : (n : Int) ≤ (b.size : Int) := by omega
        have NU : Hid (∀ W, Up w W → Calls Tryz.prog 80 #[.string (a.extract i m), .string (b.extract k n)] W fun e w' => e = .returned (.int .i64 (numF (a.extract i m).data.toList (b.extract k n).data.toList)) ∧ Up w w') := fun W hW => (runs_any (a.extract i m) (b.extract k n) (by rw [ByteArray.size_extract]; omega) (by rw [ByteArray.size_extract]; omega) W).mono (by
          rintro e w' ⟨he, rfl⟩
          exact ⟨he, hW⟩)
        clear H1 H2 HD HO RA RB hm hn HRA HRB hla hlb
        generalize numF (a.extract i m).data.toList (b.extract k n).data.toList = v at *
        go_wp2_with fail
        refine (rdigit_any c _).mono ?_
        rintro e w1 ⟨rfl, rfl⟩
        rw [hd1]
        go_wp2_with fail
        refine (rdigit_any d _).mono ?_
        rintro e w2 ⟨rfl, rfl⟩
        rw [hd2]
        go_wp2_with fail
        refine (RA2.out _).mono ?_
        rintro e w3 ⟨rfl, rfl⟩
        go_wp2_with fail
        refine (RB2.out _).mono ?_
        rintro e w4 ⟨rfl, rfl⟩
        go_upto_region 7 with fail
        go_still_tail 8, (by kernel_rfl)
        change wpList _ _ _ _ _ (World.drew _)
        go_wp2_with fail
        refine (NU.out _ hbA.drew).mono ?_
        rintro e wB ⟨rfl, hbB⟩
        by_cases hv : v = 0
        · subst hv
          rw [if_pos rfl] at HD2
          as_aux_lemma =>
          go_wp2_with fail
          go_roundg (a.data.toList.length - m)
          case measure => have := HSA.out; omega
          case rel => exact ⟨m, n, rfl, rfl, rfl, by rw [← HSA.out]; exact hm2, by rw [← HSB.out]; exact hn2, by rw [HN.out, HD2.out], hbB⟩
        · rw [if_neg hv] at HD2
          have hvb : (v != 0) = true := by rw [bne_iff_ne]; exact hv
          clear hv
          as_aux_lemma =>
          go_wp2_with fail
          go_ret
          exact ⟨by rw [HN.out, HD2.out]; rfl, hbB⟩
      · have HO2 := Lib.hid (HO.out (fun h => hdd ⟨HRA.out.1 h.1, HRB.out.1 h.2⟩))
        rw [List.drop_drop, List.drop_drop] at HO2
        clear HD HO RA RB HRA HRB hla hlb
        generalize cmpN c.toNat d.toNat = v at *
        have fin : digF c = true → digF d = false := fun h => by
          cases h2 : digF d with
          | true => exact absurd ⟨h, h2⟩ hdd
          | false => rfl
        have FIN := Lib.hid fin
        clear fin hdd
        go_wp2_with fail
        refine (rdigit_any c _).mono ?_
        rintro e w1 ⟨rfl, rfl⟩
        cases hd1 : digF c with
        | false =>
          by_cases hv : v = 0
          · subst hv
            rw [if_pos rfl] at HO2
            as_aux_lemma =>
            go_wp2_with fail
            go_roundg (a.data.toList.length - (i + 1))
            case measure => have := HSA.out; omega
            case rel => exact ⟨i + 1, k + 1, by go_num, by go_num, rfl, by rw [← HSA.out]; omega, by rw [← HSB.out]; omega, by rw [HN.out, HO2.out], hbA⟩
          · rw [if_neg hv] at HO2
            have hvb : (v != 0) = true := by rw [bne_iff_ne]; exact hv
            clear hv
            as_aux_lemma =>
            go_wp2_with fail
            go_ret
            exact ⟨by rw [HN.out, HO2.out]; rfl, hbA⟩
        | true =>
          have hd2 := FIN.out hd1
          go_wp2_with fail
          refine (rdigit_any d _).mono ?_
          rintro e w2 ⟨rfl, rfl⟩
          rw [hd2]
          by_cases hv : v = 0
          · subst hv
            rw [if_pos rfl] at HO2
            as_aux_lemma =>
            go_wp2_with fail
            go_roundg (a.data.toList.length - (i + 1))
            case measure => have := HSA.out; omega
            case rel => exact ⟨i + 1, k + 1, by go_num, by go_num, rfl, by rw [← HSA.out]; omega, by rw [← HSB.out]; omega, by rw [HN.out, HO2.out], hbA⟩
          · rw [if_neg hv] at HO2
            have hvb : (v != 0) = true := by rw [bne_iff_ne]; exact hv
            clear hv
            as_aux_lemma =>
            go_wp2_with fail
            go_ret
            exact ⟨by rw [HN.out, HO2.out]; rfl, hbA⟩
    · have HEE := Lib.hid (HE.out (by have := HSA.out; have := HSB.out; omega))
      by_cases hlt1 : i < a.size
      · have hii : (i : Int) < (a.size : Int) := by omega
        have hkk : ¬ (k : Int) < (b.size : Int) := by omega
        have hk2 : decide (k < b.size) = false := by simp; omega
        have hi2 : decide (i < a.size) = true := by simp; omega
        rw [hk2, hi2] at HEE
        as_aux_lemma =>
        go_wp2_with fail
        refine (norder_any _ _ _).mono ?_
        rintro e w1 ⟨rfl, rfl⟩
        go_wp2_with fail
        go_ret
        exact ⟨by rw [HN.out, HEE.out]; rfl, HU.out⟩
      · have hii : ¬ (i : Int) < (a.size : Int) := by omega
        have hi2 : decide (i < a.size) = false := by simp; omega
        rw [hi2] at HEE
        as_aux_lemma =>
        go_wp2_with fail
        refine (norder_any _ _ _).mono ?_
        rintro e w1 ⟨rfl, rfl⟩
        go_wp2_with fail
        go_ret
        exact ⟨by rw [HN.out, HEE.out]; first | rfl | simp, HU.out⟩
end Go.Proofs.YtghahghbahcpfaaGreatDoor
/- The walks over the reference's Has, and its Ascending at lists that ascend. -/
namespace Go.Proofs.YtghahghbahcpfaaGreatDoor
open Go.RowKit

def HsRel (key : ByteArray) (L : List ByteArray) (w1 : World) (f : Nat) (t : Value) (wr : World) : Prop :=
  ∃ i : Nat, t = .int .i64 (i : Nat) ∧ i ≤ L.length ∧ f = L.length - i ∧ (L.take i).contains key = false ∧ wr = w1
theorem take_contains {key : ByteArray} {L : List ByteArray} {i : Nat} (h : i < L.length) (hk : (L.take i).contains key = false) : (L[i] = key → L.contains key = true) ∧ (L[i] ≠ key → (L.take (i + 1)).contains key = false) := by
  refine ⟨fun e => ?_, fun e => ?_⟩
  · rw [← any_contains, List.any_eq_true]
    exact ⟨_, List.getElem_mem h, decide_eq_true e⟩
  · rw [List.take_succ_eq_append_getElem h, ← any_contains, List.any_append, any_contains, hk, List.any_cons, decide_eq_false e]; rfl
set_option maxRecDepth 100000 in
set_option maxHeartbeats 1600000 in
theorem rhas_any (key : ByteArray) (v : Value) (L : List ByteArray) (B : Nat → Prop) (hl : L.length ≤ 9223372036854775807) (w : World) (h : EStr.Row B w L v) :
    Calls Tryz.prog 27 #[v, .string key] w fun e w' => e = .returned (.bool (L.contains key)) ∧ w' = w := by
  obtain ⟨ko, kc, rfl⟩ := h.form
  have H := Lib.hid h
  clear h
  go_enter Tryz.func27, Tryz.ntmps27
  go_wp2_with fail
  go_loopg [5] L.length (HsRel key L w)
  case atStart => exact ⟨0, rfl, Nat.zero_le _, rfl, rfl, rfl⟩
  case round =>
    obtain ⟨i, rfl, hi, rfl, hk, rfl⟩ := hrel
    have HK := Lib.hid hk
    clear hk
    by_cases hlt : i < L.length
    · obtain ⟨b1, o1, rfl, _, hc1⟩ := strs_at H.out hlt
      have hii : (i : Int) < (L.length : Int) := by omega
      have HT := Lib.hid (take_contains hlt HK.out)
      generalize L[i] = x at *
      by_cases hx : x = key
      · have HN := Lib.hid (HT.out.1 hx)
        subst hx
        have t1 : (x.toList == x.toList) = true := by simp
        clear HT HK
        as_aux_lemma =>
        go_wp2_with fail
        go_ret
        exact ⟨by rw [HN.out] <;> rfl, rfl⟩
      · have HN := Lib.hid (HT.out.2 hx)
        have t1 : (x.toList == key.toList) = false := by rw [Bool.eq_false_iff]; exact fun h => hx (bytes_beq h)
        clear HT HK hx
        as_aux_lemma =>
        go_wp2_with fail
        go_roundg (L.length - (i + 1))
        case measure => omega
        case rel => exact ⟨i + 1, by go_num, by omega, rfl, HN.out, rfl⟩
    · have hii : ¬ (i : Int) < (L.length : Int) := by omega
      have he : i = L.length := by omega
      have HN : Hid (L.contains key = false) := by unfold Hid; have := HK.out; rwa [he, List.take_length] at this
      clear HK he
      go_wp2_with fail
      go_ret
      exact ⟨by rw [HN.out] <;> rfl, rfl⟩
/-- ascending lists of strings -/
def AscB (L : List ByteArray) : Prop := L.Pairwise fun x y => natC x.data.toList y.data.toList < 0
theorem AscB.at {L : List ByteArray} (h : AscB L) {i : Nat} (h1 : 1 ≤ i) (hi : i < L.length) : natC (L[i - 1]'(by omega)).data.toList L[i].data.toList < 0 := List.pairwise_iff_getElem.1 h (i - 1) i (by omega) hi (by omega)
def RaRel (L : List ByteArray) (w1 : World) (f : Nat) (t3 : Value) (wr : World) : Prop :=
  ∃ i : Nat, t3 = .int .i64 (i : Nat) ∧ 1 ≤ i ∧ i ≤ L.length + 1 ∧ f = L.length + 1 - i ∧ Below w1.heap.size w1 wr
set_option maxRecDepth 100000 in
set_option maxHeartbeats 1600000 in
theorem rasc_yes (v : Value) (L : List ByteArray) (B : Nat → Prop) (hl : L.length ≤ 1000000) (hs : ∀ x ∈ L, x.size ≤ 9223372036854775807) (ha : AscB L) (w : World) (h : EStr.Row B w L v) :
    Calls Tryz.prog 28 #[v] w fun e w' => e = .returned (.bool true) ∧ Below w.heap.size w w' := by
  obtain ⟨ko, kc, rfl⟩ := h.form
  have H := Lib.hid h
  have HS := Lib.hid hs
  have HA := Lib.hid ha
  clear h hs ha
  go_enter Tryz.func28, Tryz.ntmps28
  go_wp2_with fail
  go_loopg [3] L.length (RaRel L w)
  case atStart => exact ⟨1, rfl, Nat.le_refl _, by omega, by omega, Below.refl _ _⟩
  case round =>
    obtain ⟨i, rfl, hi1, hi2, rfl, hbel⟩ := hrel
    have HB := Lib.hid hbel
    clear hbel
    by_cases hlt : i < L.length
    · obtain ⟨b, off, rfl, hbl, hc⟩ := strs_at (H.out.below HB.out) (show i - 1 < L.length by omega)
      obtain ⟨b2, off2, e, _, hc2⟩ := strs_at (H.out.below HB.out) hlt
      injection e with e
      injection e with e1 e2
      subst e1 e2
      have HQ : Hid (natC (L[i - 1]'(by omega)).data.toList L[i].data.toList < 0) := HA.out.at hi1 hlt
      have zx := HS.out _ (List.getElem_mem (show i - 1 < L.length by omega))
      have zy := HS.out _ (List.getElem_mem hlt)
      have hii : (i : Int) < (L.length : Int) := by omega
      have hi0 : (i : Int) - 1 < (L.length : Int) := by omega
      have hi3 : (1 : Int) ≤ (i : Int) := by omega
      have q1 : IntKind.i64.wrap ((i : Int) - 1) = (i : Int) - 1 := IntWalk.i64_in _ (by omega)
      have q2 : (0 : Int) ≤ (i : Int) - 1 := by omega
      have q3 : ((i : Int) - 1).toNat = i - 1 := by omega
      generalize L[i - 1]'(by omega) = x at *
      generalize L[i] = y at *
      have hb0 := Up.refl wr
      have CM2 : Hid (∀ W, Up wr W → Calls Tryz.prog 56 #[.string x, .string y] W fun e w' => e = .returned (.int .i64 (natC x.data.toList y.data.toList)) ∧ Up wr w') := fun W hW => (rcompare_any x y zx zy W).mono (by
        rintro e w' ⟨he, hu⟩; exact ⟨he, hW.trans hu⟩)
      clear zx zy
      go_upto_region 4 with fail
      go_still_tail 9, (by kernel_rfl)
      change wpList _ _ _ _ _ (World.drew _)
      go_wp2_with fail
      refine (CM2.out _ hb0.drew).mono ?_
      rintro e w5 ⟨rfl, hu⟩
      have HB5 := Lib.hid (HB.out.trans (hu.b.mono HB.out.size))
      clear hu
      generalize natC x.data.toList y.data.toList = q at *
      have hq := HQ.out
      have t1 : ¬ (0 : Int) ≤ q := by omega
      clear HQ hq
      as_aux_lemma =>
      go_wp2_with fail
      go_roundg (L.length + 1 - (i + 1))
      case measure => omega
      case rel => exact ⟨i + 1, by go_num, by omega, by omega, rfl, HB5.out⟩
    · have hii : ¬ (i : Int) < (L.length : Int) := by omega
      go_wp2_with fail
      go_ret
      exact ⟨rfl, HB.out⟩
end Go.Proofs.YtghahghbahcpfaaGreatDoor
