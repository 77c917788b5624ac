/- Plain facts on a set of bytes as four words of 64 bits: no program in sight. -/
import Derived.Laws.BitsAllLaws
import Derived.Laws.Bits64
namespace Go.Proofs.Ytnmbabaihfdljaa
namespace Bs

/-- word i of a set of bytes, the set as one number -/
def wd (n i : Nat) : Nat := (n >>> (64 * i)) % 18446744073709551616

theorem pow64 : (18446744073709551616 : Nat) = 2 ^ 64 := by decide

theorem wd_lt (n i : Nat) : wd n i < 18446744073709551616 := Nat.mod_lt _ (by decide)

theorem testBit_wd (n i j : Nat) : (wd n i).testBit j = (decide (j < 64) && n.testBit (64 * i + j)) := by
  unfold wd
  rw [pow64, Nat.testBit_mod_two_pow, Nat.testBit_shiftRight]

theorem wd_ext {n m : Nat} (hn : n < 2 ^ 256) (hm : m < 2 ^ 256) (h : ∀ c, c < 256 → n.testBit c = m.testBit c) : n = m := by
  apply Nat.eq_of_testBit_eq
  intro i
  by_cases hi : i < 256
  · exact h i hi
  · rw [Nat.testBit_lt_two_pow (Nat.lt_of_lt_of_le hn (Nat.pow_le_pow_right (by decide) (by omega))),
      Nat.testBit_lt_two_pow (Nat.lt_of_lt_of_le hm (Nat.pow_le_pow_right (by decide) (by omega)))]

/-- the set with one byte more -/
def add (n c : Nat) : Nat := n ||| 2 ^ c
/-- the set without a byte -/
def del (n c : Nat) : Nat := n ^^^ (n &&& 2 ^ c)

theorem testBit_add (n c j : Nat) : (add n c).testBit j = (n.testBit j || decide (c = j)) := by
  unfold add; rw [Nat.testBit_or, Nat.testBit_two_pow]

theorem testBit_del (n c j : Nat) : (del n c).testBit j = (n.testBit j && !decide (c = j)) := by
  unfold del; rw [Nat.testBit_xor, Nat.testBit_and, Nat.testBit_two_pow]
  cases n.testBit j <;> simp

theorem wd_add_same (n c : Nat) : wd (add n c) (c / 64) = wd n (c / 64) ||| 2 ^ (c % 64) := by
  apply Nat.eq_of_testBit_eq
  intro j
  rw [testBit_wd, Nat.testBit_or, testBit_wd, testBit_add, Nat.testBit_two_pow]
  by_cases hj : j < 64
  · have e : (c = 64 * (c / 64) + j) ↔ (c % 64 = j) := by omega
    simp [hj, e]
  · have : c % 64 ≠ j := by omega
    simp [hj, this]

theorem wd_add_other (n c i : Nat) (h : i ≠ c / 64) : wd (add n c) i = wd n i := by
  apply Nat.eq_of_testBit_eq
  intro j
  rw [testBit_wd, testBit_wd, testBit_add]
  by_cases hj : j < 64
  · have e : ¬ (c = 64 * i + j) := by omega
    simp [e]
  · simp [hj]

theorem wd_del_same (n c : Nat) : wd (del n c) (c / 64) = wd n (c / 64) &&& (18446744073709551615 - 2 ^ (c % 64)) := by
  apply Nat.eq_of_testBit_eq
  intro j
  have hp : 2 ^ (c % 64) < 2 ^ 64 := Nat.pow_lt_pow_right (by decide) (by omega)
  have e2 : (18446744073709551615 - 2 ^ (c % 64)) = 2 ^ 64 - (2 ^ (c % 64) + 1) := by rw [← pow64]; omega
  rw [testBit_wd, Nat.testBit_and, testBit_wd, testBit_del, e2, Nat.testBit_two_pow_sub_succ hp, Nat.testBit_two_pow]
  by_cases hj : j < 64
  · have e : (c = 64 * (c / 64) + j) ↔ (c % 64 = j) := by omega
    simp [hj, e]
  · simp [hj]

theorem wd_del_other (n c i : Nat) (h : i ≠ c / 64) : wd (del n c) i = wd n i := by
  apply Nat.eq_of_testBit_eq
  intro j
  rw [testBit_wd, testBit_wd, testBit_del]
  by_cases hj : j < 64
  · have e : ¬ (c = 64 * i + j) := by omega
    simp [e]
  · simp [hj]

theorem has_word (n c : Nat) : (bits .and .u64 (((wd n (c / 64) : Nat) : Int) / 2 ^ (c % 64)) 1 == 1) = n.testBit c := by
  have hd : ((wd n (c / 64) : Nat) : Int) / 2 ^ (c % 64) = ((wd n (c / 64) / 2 ^ (c % 64) : Nat) : Int) := by
    rw [Int.natCast_ediv]; norm_cast
  have hlt : wd n (c / 64) / 2 ^ (c % 64) < 18446744073709551616 := Nat.lt_of_le_of_lt (Nat.div_le_self _ _) (wd_lt _ _)
  rw [hd]
  have h1 := u64_and_nat _ 1 hlt (by decide)
  have h1' : bits .and .u64 ((wd n (c / 64) / 2 ^ (c % 64) : Nat) : Int) 1 = ((wd n (c / 64) / 2 ^ (c % 64) &&& 1 : Nat) : Int) := h1
  rw [h1']
  have hb : n.testBit c = (wd n (c / 64)).testBit (c % 64) := by
    rw [testBit_wd]
    have e : 64 * (c / 64) + c % 64 = c := by omega
    have e' : c % 64 < 64 := by omega
    simp [e, e']
  rw [hb]
  simp only [Nat.testBit, Nat.shiftRight_eq_div_pow, Nat.and_comm 1]
  rw [Nat.and_one_is_mod]
  rcases Nat.mod_two_eq_zero_or_one (wd n (c / 64) / 2 ^ (c % 64)) with h | h <;> rw [h] <;> rfl

theorem wrap_pow (k : Nat) (h : k < 64) : IntKind.u64.wrap (2 ^ k) = ((2 ^ k : Nat) : Int) := by
  have hp : 2 ^ k < 2 ^ 64 := Nat.pow_lt_pow_right (by decide) h
  rw [IntKind.wrap_u64, Int.natCast_pow]
  have : ((2 ^ k : Nat) : Int) < 18446744073709551616 := by
    have : 2 ^ k < 18446744073709551616 := by rw [pow64]; exact hp
    omega
  have h0 : (0 : Int) ≤ ((2 ^ k : Nat) : Int) := Int.natCast_nonneg _
  rw [Int.natCast_pow] at this h0
  exact Int.emod_eq_of_lt h0 this

theorem add_word (n c : Nat) : bits .or .u64 ((wd n (c / 64) : Nat) : Int) (IntKind.u64.wrap (2 ^ (c % 64))) = ((wd (add n c) (c / 64) : Nat) : Int) := by
  have hp : 2 ^ (c % 64) < 18446744073709551616 := by rw [pow64]; exact Nat.pow_lt_pow_right (by decide) (by omega)
  rw [wrap_pow _ (by omega), u64_or_nat _ _ (wd_lt _ _) hp, wd_add_same]

theorem del_word (n c : Nat) : bits .andNot .u64 ((wd n (c / 64) : Nat) : Int) (IntKind.u64.wrap (2 ^ (c % 64))) = ((wd (del n c) (c / 64) : Nat) : Int) := by
  have hp : 2 ^ (c % 64) < 18446744073709551616 := by rw [pow64]; exact Nat.pow_lt_pow_right (by decide) (by omega)
  rw [wrap_pow _ (by omega), u64_andNot_nat _ _ (wd_lt _ _) hp, wd_del_same]

theorem wd_and (n m i : Nat) : wd n i &&& wd m i = wd (n &&& m) i := by
  apply Nat.eq_of_testBit_eq
  intro j
  rw [Nat.testBit_and, testBit_wd, testBit_wd, testBit_wd, Nat.testBit_and]
  cases decide (j < 64) <;> simp

/-- do two sets have a byte in common? -/
def meet (n m : Nat) : Bool := (List.range 256).any fun c => n.testBit c && m.testBit c
theorem meet_iff (n m : Nat) : meet n m = true ↔ ∃ c, c < 256 ∧ (n.testBit c && m.testBit c) = true := by
  unfold meet; rw [List.any_eq_true]; simp [List.mem_range]

theorem wd_zero_iff (n i : Nat) : wd n i = 0 ↔ ∀ j, j < 64 → n.testBit (64 * i + j) = false := by
  constructor
  · intro h j hj
    have := testBit_wd n i j
    rw [h] at this
    simpa [hj] using this.symm
  · intro h
    apply Nat.eq_of_testBit_eq
    intro j
    rw [testBit_wd]
    by_cases hj : j < 64
    · simp [h j hj]
    · simp [hj]

theorem or4_zero (a b c d : Nat) : (a ||| b ||| c ||| d) = 0 ↔ a = 0 ∧ b = 0 ∧ c = 0 ∧ d = 0 := by
  constructor
  · intro h
    refine ⟨?_, ?_, ?_, ?_⟩ <;> (apply Nat.eq_of_testBit_eq; intro j; have := congrArg (fun x => x.testBit j) h; simp only [Nat.testBit_or, Nat.zero_testBit, Bool.or_eq_false_iff] at this; simp [this])
  · rintro ⟨rfl, rfl, rfl, rfl⟩; rfl

theorem meet_words (n m : Nat) :
    (bits .or .u64 (bits .or .u64 (bits .or .u64 (bits .and .u64 ((wd n 0 : Nat) : Int) ((wd m 0 : Nat) : Int)) (bits .and .u64 ((wd n 1 : Nat) : Int) ((wd m 1 : Nat) : Int))) (bits .and .u64 ((wd n 2 : Nat) : Int) ((wd m 2 : Nat) : Int))) (bits .and .u64 ((wd n 3 : Nat) : Int) ((wd m 3 : Nat) : Int)) != 0) = meet n m := by
  have orlt : ∀ a b : Nat, a < 18446744073709551616 → b < 18446744073709551616 → a ||| b < 18446744073709551616 := by
    intro a b ha hb; rw [pow64] at *; exact Nat.or_lt_two_pow ha hb
  rw [u64_and_nat _ _ (wd_lt _ _) (wd_lt _ _), u64_and_nat _ _ (wd_lt _ _) (wd_lt _ _), u64_and_nat _ _ (wd_lt _ _) (wd_lt _ _), u64_and_nat _ _ (wd_lt _ _) (wd_lt _ _)]
  simp only [wd_and]
  rw [u64_or_nat _ _ (wd_lt _ _) (wd_lt _ _), u64_or_nat _ _ (orlt _ _ (wd_lt _ _) (wd_lt _ _)) (wd_lt _ _), u64_or_nat _ _ (orlt _ _ (orlt _ _ (wd_lt _ _) (wd_lt _ _)) (wd_lt _ _)) (wd_lt _ _)]
  have key : (wd (n &&& m) 0 ||| wd (n &&& m) 1 ||| wd (n &&& m) 2 ||| wd (n &&& m) 3) ≠ 0 ↔ ∃ c, c < 256 ∧ (n.testBit c && m.testBit c) = true := by
    rw [Ne, or4_zero]
    constructor
    · intro h
      apply Classical.byContradiction
      intro hn
      apply h
      have hall : ∀ i, i < 4 → wd (n &&& m) i = 0 := by
        intro i hi
        rw [wd_zero_iff]
        intro j hj
        rw [Nat.testBit_and]
        cases hb : (n.testBit (64 * i + j) && m.testBit (64 * i + j)) with
        | false => rfl
        | true => exact (hn ⟨64 * i + j, by omega, hb⟩).elim
      exact ⟨hall 0 (by omega), hall 1 (by omega), hall 2 (by omega), hall 3 (by omega)⟩
    · rintro ⟨c, hc, hb⟩ ⟨h0, h1, h2, h3⟩
      have hz : wd (n &&& m) (c / 64) = 0 := by
        have : c / 64 = 0 ∨ c / 64 = 1 ∨ c / 64 = 2 ∨ c / 64 = 3 := by omega
        rcases this with e | e | e | e
        · rw [e]; exact h0
        · rw [e]; exact h1
        · rw [e]; exact h2
        · rw [e]; exact h3
      have := (wd_zero_iff _ _).1 hz (c % 64) (by omega)
      rw [show 64 * (c / 64) + c % 64 = c by omega, Nat.testBit_and, hb] at this
      cases this
  rw [Bool.eq_iff_iff, meet_iff, ← key]
  generalize (wd (n &&& m) 0 ||| wd (n &&& m) 1 ||| wd (n &&& m) 2 ||| wd (n &&& m) 3) = x
  rw [bne_iff_ne]
  omega

end Bs
end Go.Proofs.Ytnmbabaihfdljaa
