/- Plain facts on a set of bytes as four words of 64 bits: no program in sight. -/
import Derived.Laws.BitsAllLaws
import Derived.Laws.Bits64
import Derived.Test.YtghahghbahcpfaaGreatDoorProg
import Derived.Test.YtghahghbahcpfaaGreatDoorVa1
namespace Go.Proofs.YtghahghbahcpfaaGreatDoor.G6
namespace Bs

/-- word i of a set of bytes, the set as one number -/
def wd (n i : Nat) : Nat := (n >>> (64 * i)) % 18446744073709551616

theorem pow64 : (18446744073709551616 : Nat) = 2 ^ 64 := by decide

theorem wd_lt (n i : Nat) : wd n i < 18446744073709551616 := Nat.mod_lt _ (by decide)

theorem testBit_wd (n i j : Nat) : (wd n i).testBit j = (decide (j < 64) && n.testBit (64 * i + j)) := by
  unfold wd
  rw [pow64, Nat.testBit_mod_two_pow, Nat.testBit_shiftRight]

/-- the set with one byte more -/
def add (n c : Nat) : Nat := n ||| 2 ^ c
/-- the set without a byte -/
def del (n c : Nat) : Nat := n ^^^ (n &&& 2 ^ c)

theorem testBit_add (n c j : Nat) : (add n c).testBit j = (n.testBit j || decide (c = j)) := by
  unfold add; rw [Nat.testBit_or, Nat.testBit_two_pow]

theorem testBit_del (n c j : Nat) : (del n c).testBit j = (n.testBit j && !decide (c = j)) := by
  unfold del; rw [Nat.testBit_xor, Nat.testBit_and, Nat.testBit_two_pow]
  cases n.testBit j <;> simp

theorem wd_add_same (n c : Nat) : wd (add n c) (c / 64) = wd n (c / 64) ||| 2 ^ (c % 64) := by
  apply Nat.eq_of_testBit_eq
  intro j
  rw [testBit_wd, Nat.testBit_or, testBit_wd, testBit_add, Nat.testBit_two_pow]
  by_cases hj : j < 64
  · have e : (c = 64 * (c / 64) + j) ↔ (c % 64 = j) := by omega
    simp [hj, e]
  · have : c % 64 ≠ j := by omega
    simp [hj, this]

theorem wd_add_other (n c i : Nat) (h : i ≠ c / 64) : wd (add n c) i = wd n i := by
  apply Nat.eq_of_testBit_eq
  intro j
  rw [testBit_wd, testBit_wd, testBit_add]
  by_cases hj : j < 64
  · have e : ¬ (c = 64 * i + j) := by omega
    simp [e]
  · simp [hj]

theorem wd_del_same (n c : Nat) : wd (del n c) (c / 64) = wd n (c / 64) &&& (18446744073709551615 - 2 ^ (c % 64)) := by
  apply Nat.eq_of_testBit_eq
  intro j
  have hp : 2 ^ (c % 64) < 2 ^ 64 := Nat.pow_lt_pow_right (by decide) (by omega)
  have e2 : (18446744073709551615 - 2 ^ (c % 64)) = 2 ^ 64 - (2 ^ (c % 64) + 1) := by rw [← pow64]; omega
  rw [testBit_wd, Nat.testBit_and, testBit_wd, testBit_del, e2, Nat.testBit_two_pow_sub_succ hp, Nat.testBit_two_pow]
  by_cases hj : j < 64
  · have e : (c = 64 * (c / 64) + j) ↔ (c % 64 = j) := by omega
    simp [hj, e]
  · simp [hj]

theorem wd_del_other (n c i : Nat) (h : i ≠ c / 64) : wd (del n c) i = wd n i := by
  apply Nat.eq_of_testBit_eq
  intro j
  rw [testBit_wd, testBit_wd, testBit_del]
  by_cases hj : j < 64
  · have e : ¬ (c = 64 * i + j) := by omega
    simp [e]
  · simp [hj]

theorem has_word (n c : Nat) : (bits .and .u64 (((wd n (c / 64) : Nat) : Int) / 2 ^ (c % 64)) 1 == 1) = n.testBit c := by
  have hd : ((wd n (c / 64) : Nat) : Int) / 2 ^ (c % 64) = ((wd n (c / 64) / 2 ^ (c % 64) : Nat) : Int) := by
    rw [Int.natCast_ediv]; norm_cast
  have hlt : wd n (c / 64) / 2 ^ (c % 64) < 18446744073709551616 := Nat.lt_of_le_of_lt (Nat.div_le_self _ _) (wd_lt _ _)
  rw [hd]
  have h1 := u64_and_nat _ 1 hlt (by decide)
  have h1' : bits .and .u64 ((wd n (c / 64) / 2 ^ (c % 64) : Nat) : Int) 1 = ((wd n (c / 64) / 2 ^ (c % 64) &&& 1 : Nat) : Int) := h1
  rw [h1']
  have hb : n.testBit c = (wd n (c / 64)).testBit (c % 64) := by
    rw [testBit_wd]
    have e : 64 * (c / 64) + c % 64 = c := by omega
    have e' : c % 64 < 64 := by omega
    simp [e, e']
  rw [hb]
  simp only [Nat.testBit, Nat.shiftRight_eq_div_pow, Nat.and_comm 1]
  rw [Nat.and_one_is_mod]
  rcases Nat.mod_two_eq_zero_or_one (wd n (c / 64) / 2 ^ (c % 64)) with h | h <;> rw [h] <;> rfl

theorem wrap_pow (k : Nat) (h : k < 64) : IntKind.u64.wrap (2 ^ k) = ((2 ^ k : Nat) : Int) := by
  have hp : 2 ^ k < 2 ^ 64 := Nat.pow_lt_pow_right (by decide) h
  rw [IntKind.wrap_u64, Int.natCast_pow]
  have : ((2 ^ k : Nat) : Int) < 18446744073709551616 := by
    have : 2 ^ k < 18446744073709551616 := by rw [pow64]; exact hp
    omega
  have h0 : (0 : Int) ≤ ((2 ^ k : Nat) : Int) := Int.natCast_nonneg _
  rw [Int.natCast_pow] at this h0
  exact Int.emod_eq_of_lt h0 this

theorem add_word (n c : Nat) : bits .or .u64 ((wd n (c / 64) : Nat) : Int) (IntKind.u64.wrap (2 ^ (c % 64))) = ((wd (add n c) (c / 64) : Nat) : Int) := by
  have hp : 2 ^ (c % 64) < 18446744073709551616 := by rw [pow64]; exact Nat.pow_lt_pow_right (by decide) (by omega)
  rw [wrap_pow _ (by omega), u64_or_nat _ _ (wd_lt _ _) hp, wd_add_same]

theorem del_word (n c : Nat) : bits .andNot .u64 ((wd n (c / 64) : Nat) : Int) (IntKind.u64.wrap (2 ^ (c % 64))) = ((wd (del n c) (c / 64) : Nat) : Int) := by
  have hp : 2 ^ (c % 64) < 18446744073709551616 := by rw [pow64]; exact Nat.pow_lt_pow_right (by decide) (by omega)
  rw [wrap_pow _ (by omega), u64_andNot_nat _ _ (wd_lt _ _) hp, wd_del_same]

end Bs
end Go.Proofs.YtghahghbahcpfaaGreatDoor.G6
/- The walks over package glob's sets of bytes. -/
namespace Go.Proofs.YtghahghbahcpfaaGreatDoor.G6
open Go.RowKit
open Bs

def setCells (n : Nat) : List Value := [.int .u64 (wd n 0 : Nat), .int .u64 (wd n 1 : Nat), .int .u64 (wd n 2 : Nat), .int .u64 (wd n 3 : Nat)]
abbrev setV (n : Nat) : Value := .agg #[.int .u64 (wd n 0 : Nat), .int .u64 (wd n 1 : Nat), .int .u64 (wd n 2 : Nat), .int .u64 (wd n 3 : Nat)]

theorem div_lt4 {k : Nat} (h : k < 256) : k / 64 = 0 ∨ k / 64 = 1 ∨ k / 64 = 2 ∨ k / 64 = 3 := by omega

set_option maxHeartbeats 400000 in
theorem has_any (n : Nat) (c : Int) (h0 : 0 ≤ c) (h1 : c < 256) (w : World) :
    Calls Tryz.prog 112 #[setV n, .int .u8 c] w fun e w' => e = .returned (.bool (n.testBit c.toNat)) ∧ Below w.heap.size w w' := by
  obtain ⟨k, rfl⟩ := Int.eq_ofNat_of_zero_le h0
  have hw := has_word n k
  have hk : k < 256 := by omega
  have hres : ∀ q : Nat, k / 64 = q → (bits .and .u64 (((wd n q : Nat) : Int) / 2 ^ (k % 64)) 1 == 1) = n.testBit k := by
    intro q e; subst e; exact hw
  rcases div_lt4 hk with hq | hq | hq | hq <;>
  · have hr := Lib.hid (hres _ hq)
    have hq' : (k : Int) / 64 = ((k / 64 : Nat) : Int) := by omega
    rw [hq] at hq'
    simp only [Int.cast_ofNat_Int] at hq'
    clear hw hres hq hk
    go_enter Tryz.func112, Tryz.ntmps112
    go_wp2
    go_ret
    refine ⟨?_, (Below.refl _ _).alloc (Nat.le_refl _) _⟩
    exact ret_bool hr.out

theorem set_cells (n m k : Nat) (hk : k < 256) (hs : ∀ i, i ≠ k / 64 → wd m i = wd n i) (rest : List Value) (v : Int) (hv : v = ((wd m (k / 64) : Nat) : Int)) :
    (setCells n ++ rest).toArray.setIfInBounds (k / 64) (.int .u64 v) = (setCells m ++ rest).toArray := by
  subst hv
  rcases div_lt4 hk with hq | hq | hq | hq <;> rw [hq] at hs ⊢
  · rw [setCells, setCells, hs 1 (by omega), hs 2 (by omega), hs 3 (by omega)]; simp
  · rw [setCells, setCells, hs 0 (by omega), hs 2 (by omega), hs 3 (by omega)]; simp
  · rw [setCells, setCells, hs 0 (by omega), hs 1 (by omega), hs 3 (by omega)]; simp
  · rw [setCells, setCells, hs 0 (by omega), hs 1 (by omega), hs 2 (by omega)]; simp

set_option maxHeartbeats 400000 in
theorem add_any (n : Nat) (b : Nat) (rest : List Value) (T : TypeId) (c : Int) (h0 : 0 ≤ c) (h1 : c < 256) (w : World) (hb : w.heap[b]? = some (.cells (setCells n ++ rest).toArray T (0, 0))) :
    Calls Tryz.prog 190 #[.pointer (some ⟨b, 0, none⟩), .int .u8 c] w fun e w' => e = .returned (.tuple #[]) ∧ Wrote b (.cells (setCells (add n c.toNat) ++ rest).toArray T (0, 0)) w w' := by
  obtain ⟨k, rfl⟩ := Int.eq_ofNat_of_zero_le h0
  have hk : k < 256 := by omega
  have hfin : Wrote b (.cells (setCells (add n k) ++ rest).toArray T (0, 0)) w (w.setCell ⟨b, k / 64, none⟩ (.int .u64 (bits BinOp.or IntKind.u64 ((wd n (k / 64) : Nat) : Int) (IntKind.u64.wrap (2 ^ (k % 64)))))) := by
    have := wrote_setCell hb (k / 64) (.int .u64 (bits BinOp.or IntKind.u64 ((wd n (k / 64) : Nat) : Int) (IntKind.u64.wrap (2 ^ (k % 64)))))
    rwa [set_cells n (add n k) k hk (fun i hi => wd_add_other n k i hi) rest _ (add_word n k)] at this
  have hfree := free_of_blk hb
  have hcell := cell_of_blk hb
  rcases div_lt4 hk with hq | hq | hq | hq <;>
  · have hq' : (k : Int) / 64 = ((k / 64 : Nat) : Int) := by omega
    rw [hq] at hq' hfin
    simp only [Int.cast_ofNat_Int] at hq'
    have g := hcell (k / 64)
    have f := hfree (k / 64)
    rw [hq] at g f
    simp [setCells] at g
    have HB := Lib.hid hfin
    clear hq hk hfree hcell hb hfin
    go_enter Tryz.func190, Tryz.ntmps190
    go_region
    go_end0
    exact ⟨rfl, HB.out.drew⟩

set_option maxHeartbeats 400000 in
theorem drop_any (n : Nat) (b : Nat) (rest : List Value) (T : TypeId) (c : Int) (h0 : 0 ≤ c) (h1 : c < 256) (w : World) (hb : w.heap[b]? = some (.cells (setCells n ++ rest).toArray T (0, 0))) :
    Calls Tryz.prog 188 #[.pointer (some ⟨b, 0, none⟩), .int .u8 c] w fun e w' => e = .returned (.tuple #[]) ∧ Wrote b (.cells (setCells (del n c.toNat) ++ rest).toArray T (0, 0)) w w' := by
  obtain ⟨k, rfl⟩ := Int.eq_ofNat_of_zero_le h0
  have hk : k < 256 := by omega
  have hfin : Wrote b (.cells (setCells (del n k) ++ rest).toArray T (0, 0)) w (w.setCell ⟨b, k / 64, none⟩ (.int .u64 (bits BinOp.andNot IntKind.u64 ((wd n (k / 64) : Nat) : Int) (IntKind.u64.wrap (2 ^ (k % 64)))))) := by
    have := wrote_setCell hb (k / 64) (.int .u64 (bits BinOp.andNot IntKind.u64 ((wd n (k / 64) : Nat) : Int) (IntKind.u64.wrap (2 ^ (k % 64)))))
    rwa [set_cells n (del n k) k hk (fun i hi => wd_del_other n k i hi) rest _ (del_word n k)] at this
  have hfree := free_of_blk hb
  have hcell := cell_of_blk hb
  rcases div_lt4 hk with hq | hq | hq | hq <;>
  · have hq' : (k : Int) / 64 = ((k / 64 : Nat) : Int) := by omega
    rw [hq] at hq' hfin
    simp only [Int.cast_ofNat_Int] at hq'
    have g := hcell (k / 64)
    have f := hfree (k / 64)
    rw [hq] at g f
    simp [setCells] at g
    have HB := Lib.hid hfin
    clear hq hk hfree hcell hb hfin
    go_enter Tryz.func188, Tryz.ntmps188
    go_region
    go_end0
    exact ⟨rfl, HB.out.drew⟩

def full : Nat := 2 ^ 256 - 1
theorem wd_full : wd full 0 = 18446744073709551615 ∧ wd full 1 = 18446744073709551615 ∧ wd full 2 = 18446744073709551615 ∧ wd full 3 = 18446744073709551615 := by decide

theorem full_blk (w : World) (T : TypeId) (f : Nat × Nat) (o : Obj) (h : o = .cells #[.int .u64 18446744073709551615, .int .u64 18446744073709551615, .int .u64 18446744073709551615, .int .u64 18446744073709551615] T f) : (w.alloc o).heap[w.heap.size]? = some (.cells (setCells full ++ []).toArray T f) := by
  subst h
  obtain ⟨h0, h1, h2, h3⟩ := wd_full
  rw [hp_new rfl]
  simp [setCells, h0, h1, h2, h3]

theorem blk4 {w : World} {b : Nat} {T : TypeId} {v0 v1 v2 v3 : Value} (h : w.heap[b]? = some (.cells #[v0, v1, v2, v3] T (0, 0))) :
    (w.cell? ⟨b, 0, none⟩ = some v0 ∧ w.cell? ⟨b, 1, none⟩ = some v1 ∧ w.cell? ⟨b, 2, none⟩ = some v2 ∧ w.cell? ⟨b, 3, none⟩ = some v3) ∧
    (w.frozen? ⟨b, 0, none⟩ = false ∧ w.frozen? ⟨b, 1, none⟩ = false ∧ w.frozen? ⟨b, 2, none⟩ = false ∧ w.frozen? ⟨b, 3, none⟩ = false) := by
  refine ⟨⟨?_, ?_, ?_, ?_⟩, free_of_blk h _, free_of_blk h _, free_of_blk h _, free_of_blk h _⟩ <;> (rw [cell_of_blk h]; rfl)

set_option maxHeartbeats 400000 in
theorem most_false (w : World) :
    Calls Tryz.prog 171 #[.bool false] w fun e w' => e = .returned (setV (del full 47)) ∧ Below w.heap.size w w' := by
  go_enter Tryz.func171, Tryz.ntmps171
  go_wp2_with fail
  refine (drop_any full (w.heap.size + 1) [] 170 47 (by omega) (by omega) _ (by have := full_blk (w.alloc (Obj.cells #[.int .u64 0, .int .u64 0, .int .u64 0, .int .u64 0] 170)) 170 (0, 0) _ rfl; simpa using this)).mono ?_
  rintro e w1 ⟨rfl, hW⟩
  obtain ⟨⟨a0, a1, a2, a3⟩, _⟩ := blk4 (v0 := .int .u64 (wd (del full 47) 0 : Nat)) (v1 := .int .u64 (wd (del full 47) 1 : Nat)) (v2 := .int .u64 (wd (del full 47) 2 : Nat)) (v3 := .int .u64 (wd (del full 47) 3 : Nat)) hW.at_
  have hold := hW.block w.heap.size (by omega)
  rw [hp_old (by simp), hp_new rfl] at hold
  obtain ⟨⟨b0, b1, b2, b3⟩, f0, f1, f2, f3⟩ := blk4 hold
  have HB : Hid (Below w.heap.size w w1) := (((Below.refl _ _).alloc (Nat.le_refl _) _).alloc (by simp) _).trans (hW.below (by omega))
  clear hW hold
  go_wp2
  refine bodyPost_ret (v := setV (del full 47)) ?_ rfl ⟨rfl, ?_⟩
  · simp [results, Tryz.results171, go_sem, *]
  · exact (((HB.out.setCell (by simp) _).setCell (by simp) _).setCell (by simp) _).setCell (by simp) _

set_option maxHeartbeats 400000 in
theorem most_true (w : World) :
    Calls Tryz.prog 171 #[.bool true] w fun e w' => e = .returned (setV full) ∧ Below w.heap.size w w' := by
  obtain ⟨h0, h1, h2, h3⟩ := wd_full
  go_enter Tryz.func171, Tryz.ntmps171
  clear h0 h1 h2 h3
  go_wp2
  refine bodyPost_ret (v := setV full) ?_ rfl ⟨rfl, ?_⟩
  · obtain ⟨h0, h1, h2, h3⟩ := wd_full
    simp [results, Tryz.results171, go_sem, h0, h1, h2, h3]
  · exact ((Below.refl _ _).alloc (Nat.le_refl _) _).alloc (by simp) _

/-- an element of a pattern, as the program has it -/
structure El where
  set : Nat
  many : Bool
  lit : Bool
  ch : Nat

def El.cells (e : El) : List Value := setCells e.set ++ [.bool e.many, .bool e.lit, .int .u8 (e.ch : Nat)]
abbrev El.val (e : El) : Value := .agg #[.int .u64 (wd e.set 0 : Nat), .int .u64 (wd e.set 1 : Nat), .int .u64 (wd e.set 2 : Nat), .int .u64 (wd e.set 3 : Nat), .bool e.many, .bool e.lit, .int .u8 (e.ch : Nat)]

def litEl (c : Nat) : El := { set := add 0 c, many := false, lit := true, ch := c }

theorem wd_zero : wd 0 0 = 0 ∧ wd 0 1 = 0 ∧ wd 0 2 = 0 ∧ wd 0 3 = 0 := by decide

set_option maxHeartbeats 400000 in
theorem literal_any (c : Int) (c0 : 0 ≤ c) (c1 : c < 256) (w : World) :
    Calls Tryz.prog 173 #[.int .u8 c] w fun e w' => e = .returned (litEl c.toNat).val ∧ Below w.heap.size w w' := by
  obtain ⟨k, rfl⟩ := Int.eq_ofNat_of_zero_le c0
  go_enter Tryz.func173, Tryz.ntmps173
  go_wp2_with fail
  refine (add_any 0 (w.heap.size + 1) [.bool false, .bool true, .int .u8 (k : Nat)] 172 k c0 c1 _ (by
    obtain ⟨h0, h1, h2, h3⟩ := wd_zero
    rw [hp_new (by simp)]; simp [setCells, h0, h1, h2, h3])).mono ?_
  rintro e w1 ⟨rfl, hW⟩
  have hold := hW.block w.heap.size (by omega)
  rw [hp_old (by simp), hp_new rfl] at hold
  have hnew := hW.at_
  have HB : Hid (Below w.heap.size w w1) := (((Below.refl _ _).alloc (Nat.le_refl _) _).alloc (by simp) _).trans (hW.below (by omega))
  have HO := Lib.hid hold
  have HN : Hid (w1.heap[w.heap.size + 1]? = some (.cells #[.int .u64 (wd (add 0 k) 0 : Nat), .int .u64 (wd (add 0 k) 1 : Nat), .int .u64 (wd (add 0 k) 2 : Nat), .int .u64 (wd (add 0 k) 3 : Nat), .bool false, .bool true, .int .u8 (k : Nat)] 172 (0, 0))) := hnew
  clear hW hold hnew
  go_wp2_with (first | (refine wpList_load_row rfl 172 _ rfl _ rfl 172 _ (0, 0) _ HN.out Tryz.underlying172 rfl (by kernel_rfl) ?_) | (refine wpList_store_row rfl 172 _ _ rfl _ rfl 172 _ HO.out (litEl k).val rfl (by kernel_rfl) rfl rfl ?_; intro w2 hW2; have HW2 := Lib.hid hW2; clear hW2))
  refine bodyPost_ret (v := (litEl k).val) ?_ rfl ⟨rfl, ?_⟩
  · exact results_cell_row rfl _ _ _ 172 _ (0, 0) _ rfl HW2.out.at_ Tryz.underlying172 rfl (by kernel_rfl)
  · exact HB.out.trans (HW2.out.below (Nat.le_refl _))
end Go.Proofs.YtghahghbahcpfaaGreatDoor.G6
/- The walks over package glob's parser. -/
namespace Go.Proofs.YtghahghbahcpfaaGreatDoor.G6
open Go.RowKit
open Bs

/-- the byte of an item of a class with which a string begins, and its length, or 0 -/
def charF : List UInt8 → Nat × Nat
  | [] => (0, 0)
  | c :: r => if c.toNat = 93 ∨ c.toNat = 45 then (0, 0) else if c.toNat ≠ 92 then (c.toNat, 1) else match r with | [] => (0, 0) | d :: _ => (d.toNat, 2)

set_option maxHeartbeats 400000 in
theorem char_any (s : ByteArray) (hs : s.size ≤ maxLen) (w : World) :
    Calls Tryz.prog 189 #[.string s] w fun e w' => e = .returned (.tuple #[.int .u8 (charF s.data.toList).1, .int .i64 (charF s.data.toList).2]) ∧ w = w' := by
  unfold maxLen at hs
  generalize hl : s.data.toList = l
  match l with
  | [] =>
    obtain ⟨h1, _⟩ := str_nil hl
    clear hl
    go_enter Tryz.func189, Tryz.ntmps189
    go_wp2
    go_ret2
    exact ⟨rfl, rfl⟩
  | [c] =>
    obtain ⟨h1, h2⟩ := str_cons hl
    have h3 := str_at hl 0 (by omega)
    simp at h3 h2
    have h4 : 0 < s.size := by omega
    have h6 : s.size < 2 := by omega
    have h5 : s[0].toNat = c.toNat := by rw [h3]
    clear hl h2 h3
    go_enter Tryz.func189, Tryz.ntmps189
    go_wp2
    all_goals
      go_ret2
      refine ⟨ret2_int ?_ ?_, rfl⟩ <;> ((try simp only [beq_iff_eq, bne_iff_ne, beq_eq_false_iff_ne, ne_eq, bne_eq_false_iff_eq] at *); simp only [charF]; repeat' split) <;> omega
  | c :: d :: r =>
    obtain ⟨h1, h2⟩ := str_cons hl
    have h3 := str_at hl 0 (by omega)
    have h3' := str_at hl 1 (by simp at h2; omega)
    simp at h3 h3' h2
    have h4 : 0 < s.size := by omega
    have h6 : 1 < s.size := by omega
    have h5 : s[0].toNat = c.toNat := by rw [h3]
    have h5' : s[1].toNat = d.toNat := by rw [h3']
    clear hl h2 h3 h3'
    go_enter Tryz.func189, Tryz.ntmps189
    go_wp2
    all_goals
      go_ret2
      refine ⟨ret2_int ?_ ?_, rfl⟩ <;> ((try simp only [beq_iff_eq, bne_iff_ne, beq_eq_false_iff_ne, ne_eq, bne_eq_false_iff_eq] at *); simp only [charF]; repeat' split) <;> omega

theorem charF_bd (l : List UInt8) : (charF l).1 < 256 ∧ (charF l).2 ≤ 2 ∧ (charF l).2 ≤ l.length := by
  match l with
  | [] => simp [charF]
  | [c] => have := c.toNat_lt; simp only [charF]; repeat' split
           all_goals simp
           all_goals omega
  | c :: d :: r => have := c.toNat_lt; have := d.toNat_lt; simp only [charF]; repeat' split
                   all_goals simp
                   all_goals omega

/-- the set with n bytes more, from c on -/
def addN (N c : Nat) : Nat → Nat
  | 0 => N
  | n + 1 => add (addN N c n) (c + n)

/-- the set of the items of a class from here on, and what is left behind them; first: is it the first item? -/
def clsF : Nat → Bool → List UInt8 → Nat → Option (Nat × List UInt8)
  | 0, _, _, _ => none
  | f + 1, b, l, N =>
    if b = false ∧ (l = [] ∨ l.head? = some 93) then some (N, l)
    else if (charF l).2 = 0 then none
    else if (l.drop (charF l).2).head? = some 45 then
      if (charF (l.drop ((charF l).2 + 1))).2 = 0 ∨ (charF (l.drop ((charF l).2 + 1))).1 < (charF l).1 then none
      else clsF f false (l.drop ((charF l).2 + (1 + (charF (l.drop ((charF l).2 + 1))).2))) (addN N (charF l).1 ((charF (l.drop ((charF l).2 + 1))).1 + 1 - (charF l).1))
    else clsF f false (l.drop (charF l).2) (addN N (charF l).1 1)

/-- the class with which a string begins: its length, or 0 -/
def classLen (l : List UInt8) : Nat :=
  match clsF l.length true (l.drop 1) 0 with
  | some (_, _ :: r) => l.length - r.length
  | _ => 0
/-- its set -/
def classSet (l : List UInt8) : Nat :=
  match clsF l.length true (l.drop 1) 0 with
  | some (N, _) => del N 47
  | none => 0

def ClassPost (l : List UInt8) (w : World) (e : Ending) (w' : World) : Prop :=
  ∃ N, e = .returned (.tuple #[setV N, .int .i64 (classLen l : Nat)]) ∧ (classLen l ≠ 0 → N = classSet l) ∧ Below w.heap.size w w'

/-- what holds at the head of the loop over the items -/
def ClsRel (w : World) (l : List UInt8) (f : Nat) (t5 : Value) (wr : World) : Prop :=
  ∃ k N, t5 = .int .i64 (k : Nat) ∧ 1 ≤ k ∧ k ≤ l.length ∧ clsF l.length true (l.drop 1) 0 = clsF f (decide (k = 1)) (l.drop k) N ∧ l.length - k < f ∧
    wr.heap[w.heap.size + 1]? = some (.cells (setCells N ++ []).toArray 170 (0, 0)) ∧ wr.heap[w.heap.size]? = some (.cells #[.int .u64 0, .int .u64 0, .int .u64 0, .int .u64 0] 170 (0, 0)) ∧ Below w.heap.size w wr ∧ w.heap.size + 2 ≤ wr.heap.size

theorem clsF_stop (f : Nat) (r : List UInt8) (N : Nat) : clsF (f + 1) false (93 :: r) N = some (N, 93 :: r) := by simp [clsF]

theorem clsF_go (f : Nat) (b : Bool) (l : List UInt8) (N : Nat) (h : ¬ (b = false ∧ (l = [] ∨ l.head? = some 93))) :
    clsF (f + 1) b l N = if (charF l).2 = 0 then none
    else if (l.drop (charF l).2).head? = some 45 then
      if (charF (l.drop ((charF l).2 + 1))).2 = 0 ∨ (charF (l.drop ((charF l).2 + 1))).1 < (charF l).1 then none
      else clsF f false (l.drop ((charF l).2 + (1 + (charF (l.drop ((charF l).2 + 1))).2))) (addN N (charF l).1 ((charF (l.drop ((charF l).2 + 1))).1 + 1 - (charF l).1))
    else clsF f false (l.drop (charF l).2) (addN N (charF l).1 1) := by
  rw [clsF, if_neg h]

theorem u8_of_toNat {c : UInt8} {n : Nat} (h : c.toNat = n) : c = UInt8.ofNat n := by subst h; simp

theorem drop_cons {s : ByteArray} {l : List UInt8} (hl : s.data.toList = l) {k : Nat} (hk : k < s.size) : l.drop k = s[k] :: l.drop (k + 1) := by
  have hk' : k < l.length := by rw [← hl, ← Lib.size_eq]; exact hk
  rw [List.drop_eq_getElem_cons hk']
  congr 1
  have := str_at hl k hk
  rw [this, List.getD_eq_getElem?_getD, List.getElem?_eq_getElem hk']; rfl

/-- what holds at the head of the loop over the bytes of one item -/
def InRel (w : World) (N c d : Nat) (f : Nat) (t9 : Value) (wr : World) : Prop :=
  ∃ j, t9 = .int .i64 (j : Nat) ∧ c ≤ j ∧ j ≤ d + 1 ∧ f = d + 1 - j ∧
    wr.heap[w.heap.size + 1]? = some (.cells (setCells (addN N c (j - c)) ++ []).toArray 170 (0, 0)) ∧ wr.heap[w.heap.size]? = some (.cells #[.int .u64 0, .int .u64 0, .int .u64 0, .int .u64 0] 170 (0, 0)) ∧ Below w.heap.size w wr ∧ w.heap.size + 2 ≤ wr.heap.size

set_option maxRecDepth 100000 in
set_option maxHeartbeats 1600000 in
theorem class_any (s : ByteArray) (hs : s.size ≤ maxLen) (h1 : 1 ≤ s.size) (w : World) :
    Calls Tryz.prog 172 #[.string s] w (ClassPost s.data.toList w) := by
  unfold maxLen at hs
  have hsz := Lib.size_eq s
  generalize hl : s.data.toList = l at *
  have HS := Lib.hid hsz
  have HL := Lib.hid hl
  clear hsz hl
  go_enter Tryz.func172, Tryz.ntmps172
  go_wp2_with fail
  go_loopg [5] l.length (ClsRel w l)
  case atStart =>
    have h := HS.out
    exact ⟨1, 0, rfl, by omega, by omega, by simp, by omega, hp_new (by simp), by rw [hp_old (by simp)]; exact hp_new rfl, ((Below.refl _ _).alloc (Nat.le_refl _) _).alloc (by simp) _, by simp⟩
  case round =>
    obtain ⟨k, N, rfl, hk1, hk2, hR, hf, hB1, hB0, hBel, hsz⟩ := hrel
    have hks : k ≤ s.size := by have := HS.out; omega
    have HR := Lib.hid hR
    have HB1 := Lib.hid hB1
    have HB0 := Lib.hid hB0
    have HBel := Lib.hid hBel
    have HK := Lib.hid hk2
    have HF := Lib.hid hf
    clear hR hB1 hB0 hBel hk2 hf
    have HB1 : Hid (wr.heap[w.heap.size + 1]? = some (.cells #[.int .u64 (wd N 0 : Nat), .int .u64 (wd N 1 : Nat), .int .u64 (wd N 2 : Nat), .int .u64 (wd N 3 : Nat)] 170 (0, 0))) := HB1
    by_cases hex : k ≠ 1 ∧ (k = s.size ∨ ∃ h : k < s.size, s[k].toNat = 93)
    · obtain ⟨hk, hex⟩ := hex
      have hk' : ((k : Int) == 1) = false := by simp; omega
      rcases hex with hex | ⟨hlt, h93⟩
      · subst hex
        have hfin : classLen l = 0 := by
          have h1 := HR.out
          have h2 := HF.out
          obtain ⟨g, rfl⟩ : ∃ g, gk = g + 1 := ⟨gk - 1, by omega⟩
          have e : List.drop s.size l = [] := List.drop_of_length_le (by rw [HS.out]; exact Nat.le_refl _)
          rw [e, decide_eq_false hk] at h1
          unfold classLen
          rw [h1]
          simp [clsF]
        have HFIN := Lib.hid hfin
        clear hfin
        go_wp2_with (first | (refine wpList_load_row rfl 170 _ rfl _ rfl 170 _ (0, 0) _ HB1.out Tryz.underlying170 rfl (by kernel_rfl) ?_) | (refine wpList_store_row rfl 170 _ _ rfl _ rfl 170 _ HB0.out (setV N) rfl (by kernel_rfl) rfl rfl ?_; intro w2 hW2; have HW2 := Lib.hid hW2; clear hW2))
        refine bodyPost_ret (results_row_tmp rfl _ _ _ 170 _ (0, 0) _ rfl HW2.out.at_ Tryz.underlying170 rfl (by kernel_rfl)) rfl ⟨N, ?_, ?_, HBel.out.trans (HW2.out.below (Nat.le_refl _))⟩
        · rw [HFIN.out]; rfl
        · intro h; exact (h HFIN.out).elim
      · have hdr : l.drop k = 93 :: l.drop (k + 1) := by rw [drop_cons HL.out hlt, u8_of_toNat h93]; rfl
        have hfin : classLen l = k + 1 ∧ classSet l = del N 47 := by
          have h1 := HR.out
          have h2 := HF.out
          have h3 := HS.out
          obtain ⟨g, rfl⟩ : ∃ g, gk = g + 1 := ⟨gk - 1, by omega⟩
          rw [hdr, decide_eq_false hk, clsF_stop] at h1
          unfold classLen classSet
          rw [h1]
          simp
          omega
        have HFIN := Lib.hid hfin
        have h93' : ((s[k].toNat : Int) != 93) = false := by simp [h93]
        clear hfin hdr h93
        go_wp2_with fail
        refine (drop_any N (w.heap.size + 1) [] 170 47 (by omega) (by omega) wr HB1.out).mono ?_
        rintro e w1 ⟨rfl, hW⟩
        have HN : Hid (w1.heap[w.heap.size + 1]? = some (.cells #[.int .u64 (wd (del N 47) 0 : Nat), .int .u64 (wd (del N 47) 1 : Nat), .int .u64 (wd (del N 47) 2 : Nat), .int .u64 (wd (del N 47) 3 : Nat)] 170 (0, 0))) := hW.at_
        have HO : Hid (w1.heap[w.heap.size]? = some (.cells #[.int .u64 0, .int .u64 0, .int .u64 0, .int .u64 0] 170 (0, 0))) := (hW.block _ (by omega)).trans HB0.out
        have HBel1 : Hid (Below w.heap.size w w1) := HBel.out.trans (hW.below (by omega))
        clear hW
        go_wp2_with (first | (refine wpList_load_row rfl 170 _ rfl _ rfl 170 _ (0, 0) _ HN.out Tryz.underlying170 rfl (by kernel_rfl) ?_) | (refine wpList_store_row rfl 170 _ _ rfl _ rfl 170 _ HO.out (setV (del N 47)) rfl (by kernel_rfl) rfl rfl ?_; intro w2 hW2; have HW2 := Lib.hid hW2; clear hW2))
        refine bodyPost_ret (results_row_tmp rfl _ _ _ 170 _ (0, 0) _ rfl HW2.out.at_ Tryz.underlying170 rfl (by kernel_rfl)) rfl ⟨del N 47, ?_, fun _ => HFIN.out.2.symm, HBel1.out.trans (HW2.out.below (Nat.le_refl _))⟩
        rw [HFIN.out.1]; rfl
    · have hm : ¬ (decide (k = 1) = false ∧ (l.drop k = [] ∨ (l.drop k).head? = some 93)) := by
        rintro ⟨a, b⟩
        have a := of_decide_eq_false a
        apply hex
        refine ⟨a, ?_⟩
        by_cases hlt : k < s.size
        · right
          rw [drop_cons HL.out hlt] at b
          refine ⟨hlt, ?_⟩
          rcases b with b | b
          · cases b
          · simp at b; rw [b]; rfl
        · left; omega
      have hg : ∃ g, gk = g + 1 := ⟨gk - 1, by have := HF.out; omega⟩
      obtain ⟨g, rfl⟩ := hg
      have HR1 := Lib.hid (HR.out.trans (clsF_go g _ _ N hm))
      have hcs : ((k : Int) == 1) = true ∨ (((k : Int) == 1) = false ∧ ∃ h : k < s.size, ((s[k].toNat : Int) != 93) = true) := by
        by_cases hk : k = 1
        · left; simp [hk]
        · right
          refine ⟨by simp; omega, ?_⟩
          have hlt : k < s.size := by
            by_cases h : k < s.size
            · exact h
            · exact (hex ⟨hk, .inl (by omega)⟩).elim
          refine ⟨hlt, ?_⟩
          rw [bne_iff_ne]
          intro h
          exact hex ⟨hk, .inr ⟨hlt, by omega⟩⟩
      clear hex hm HR
      rcases hcs with hk | ⟨hk, hlt, h93⟩
      all_goals
        go_wp2_with fail
        refine (char_any _ (by unfold maxLen; simp; omega) _).mono ?_
        rintro e w1 ⟨rfl, rfl⟩
        rw [Lib.extract_to_end, HL.out]
        obtain ⟨c1, c2, c3⟩ := charF_bd (l.drop k)
        generalize charF (l.drop k) = cn at *
        obtain ⟨c, n⟩ := cn
        simp only at c1 c2 c3
        by_cases hn : n = 0
        · subst hn
          have hfin : classLen l = 0 := by
            unfold classLen
            rw [HR1.out, if_pos rfl]
          have HFIN := Lib.hid hfin
          clear hfin
          go_wp2_with (first | (refine wpList_load_row rfl 170 _ rfl _ rfl 170 _ (0, 0) _ HB1.out Tryz.underlying170 rfl (by kernel_rfl) ?_) | (refine wpList_store_row rfl 170 _ _ rfl _ rfl 170 _ HB0.out (setV N) rfl (by kernel_rfl) rfl rfl ?_; intro w2 hW2; have HW2 := Lib.hid hW2; clear hW2))
          refine bodyPost_ret (results_row_tmp rfl _ _ _ 170 _ (0, 0) _ rfl HW2.out.at_ Tryz.underlying170 rfl (by kernel_rfl)) rfl ⟨N, ?_, ?_, HBel.out.trans (HW2.out.below (Nat.le_refl _))⟩
          · rw [HFIN.out]; rfl
          · intro h; exact (h HFIN.out).elim
        · have hn0 : ((n : Int) == 0) = false := by simp; omega
          have hn1 : 1 ≤ n := by omega
          have hkn : k + n ≤ s.size := by have := HS.out; simp at c3; omega
          by_cases h45 : ∃ h : k + n < s.size, s[k + n].toNat = 45
          · obtain ⟨hlt', h45⟩ := h45
            have h45' : ((s[k + n].toNat : Int) == 45) = true := by simp [h45]
            have h45l : (List.drop n (List.drop k l)).head? = some 45 := by
              rw [List.drop_drop, drop_cons HL.out hlt', u8_of_toNat h45]; rfl
            have hr2 := HR1.out
            rw [if_neg hn, if_pos h45l] at hr2
            have HR3 := Lib.hid hr2
            clear HR1 h45 h45l hr2
            go_wp2_with fail
            refine (char_any _ (by unfold maxLen; simp; omega) _).mono ?_
            rintro e w1 ⟨rfl, rfl⟩
            have hdd : l.drop (k + n + 1) = List.drop (n + 1) (List.drop k l) := by rw [List.drop_drop]; congr 1
            rw [Lib.extract_to_end, HL.out, hdd]
            obtain ⟨d1, d2, d3⟩ := charF_bd (List.drop (n + 1) (List.drop k l))
            clear hdd
            generalize charF (List.drop (n + 1) (List.drop k l)) = dm at *
            obtain ⟨d, m⟩ := dm
            simp only at d1 d2 d3
            by_cases hbad : m = 0 ∨ d < c
            · have hfin : classLen l = 0 := by
                unfold classLen
                rw [HR3.out, if_pos hbad]
              have HFIN := Lib.hid hfin
              have hcs2 : ((m : Int) == 0) = true ∨ (((m : Int) == 0) = false ∧ (d : Int) < c) := by
                rcases hbad with h | h
                · left; simp [h]
                · by_cases h' : m = 0
                  · left; simp [h']
                  · right; exact ⟨by simp; omega, by omega⟩
              clear hfin hbad
              rcases hcs2 with h | ⟨h, h'⟩
              all_goals
                go_wp2_with (first | (refine wpList_load_row rfl 170 _ rfl _ rfl 170 _ (0, 0) _ HB1.out Tryz.underlying170 rfl (by kernel_rfl) ?_) | (refine wpList_store_row rfl 170 _ _ rfl _ rfl 170 _ HB0.out (setV N) rfl (by kernel_rfl) rfl rfl ?_; intro w2 hW2; have HW2 := Lib.hid hW2; clear hW2))
                refine bodyPost_ret (results_row_tmp rfl _ _ _ 170 _ (0, 0) _ rfl HW2.out.at_ Tryz.underlying170 rfl (by kernel_rfl)) rfl ⟨N, ?_, ?_, HBel.out.trans (HW2.out.below (Nat.le_refl _))⟩
                · rw [HFIN.out]; rfl
                · intro h; exact (h HFIN.out).elim
            · have hm0 : ((m : Int) == 0) = false := by simp; omega
              have hdc : (c : Int) ≤ d := by omega
              have hdcb : decide (d < c) = false := by simp; omega
              have hkm : k + n + 1 + m ≤ s.size := by have := HS.out; simp at d3; omega
              have hr2 := HR3.out
              rw [if_neg hbad, List.drop_drop] at hr2
              have HR2 := Lib.hid hr2
              clear hr2 HR3
              have hkl : k + (n + (1 + m)) ≤ l.length := by have := HS.out; omega
              have hff : l.length - (k + (n + (1 + m))) < g := by have := HF.out; omega
              clear hbad hn
              go_wp2_with fail
              obtain ⟨wo, rfl⟩ : ∃ wo : World, wo = wr := ⟨_, rfl⟩
              go_loopg [9] (d + 1 - c) (InRel w N c d)
              case atStart => exact ⟨c, rfl, Nat.le_refl _, by omega, rfl, by rw [Nat.sub_self]; exact HB1.out, HB0.out, HBel.out, hsz⟩
              case round =>
                obtain ⟨j, rfl, hj1, hj2, rfl, hb1, hb0, hbel, hsz'⟩ := hrel
                have JB1 := Lib.hid hb1
                have JB0 := Lib.hid hb0
                have JBel := Lib.hid hbel
                clear hb1 hb0 hbel
                by_cases hjd : j ≤ d
                · go_wp2_with fail
                  refine (add_any (addN N c (j - c)) (w.heap.size + 1) [] 170 j (by omega) (by omega) wr JB1.out).mono ?_
                  rintro e w1 ⟨rfl, hW⟩
                  have HW := Lib.hid hW
                  clear hW
                  go_wp2
                  go_roundg (d + 1 - (j + 1))
                  case measure => omega
                  case rel =>
                    refine ⟨j + 1, by go_num, by omega, by omega, rfl, ?_, (HW.out.block _ (by omega)).trans JB0.out, JBel.out.trans (HW.out.below (by omega)), by rw [HW.out.size]; exact hsz'⟩
                    rw [show j + 1 - c = (j - c) + 1 by omega, addN, show c + (j - c) = j by omega]
                    exact HW.out.at_
                · have hj3 : j = d + 1 := by omega
                  subst hj3
                  go_wp2_with fail
                  go_roundg g
                  case measure => omega
                  case rel => exact ⟨(k + (n + (1 + m))), addN N c (d + 1 - c), by go_num, by omega, by omega, by rw [HR2.out, decide_eq_false (by omega)], by omega, JB1.out, JB0.out, JBel.out, hsz'⟩
          · have h45l : ¬ (List.drop n (List.drop k l)).head? = some 45 := by
              rw [List.drop_drop]
              by_cases hlt' : k + n < s.size
              · rw [drop_cons HL.out hlt']
                intro h
                simp at h
                exact h45 ⟨hlt', by rw [h]; rfl⟩
              · rw [List.drop_of_length_le (by have := HS.out; omega)]
                simp
            have hr2 := HR1.out
            rw [if_neg hn, if_neg h45l, List.drop_drop] at hr2
            have HR2 := Lib.hid hr2
            clear hr2
            have hkl : k + n ≤ l.length := by have := HS.out; omega
            have hff : l.length - (k + n) < g := by have := HF.out; omega
            have hcs2 : ¬ ((k : Int) + n < s.size) ∨ ((k : Int) + n < s.size ∧ ∃ h : k + n < s.size, ((s[k + n].toNat : Int) == 45) = false) := by
              by_cases hlt' : k + n < s.size
              · right
                refine ⟨by omega, hlt', ?_⟩
                rw [beq_eq_false_iff_ne]
                intro h
                exact h45 ⟨hlt', by omega⟩
              · left; omega
            have e1 : c + 1 - c = 1 := by omega
            have HE1 := Lib.hid e1
            clear h45 h45l HR1 hn e1
            rcases hcs2 with h | ⟨h, h', h''⟩
            all_goals
              go_wp2_with fail
              obtain ⟨wo, rfl⟩ : ∃ wo : World, wo = wr := ⟨_, rfl⟩
              go_loopg [9] (c + 1 - c) (InRel w N c c)
              case atStart => exact ⟨c, rfl, Nat.le_refl _, by omega, rfl, by rw [Nat.sub_self]; exact HB1.out, HB0.out, HBel.out, hsz⟩
              case round =>
                obtain ⟨j, rfl, hj1, hj2, rfl, hb1, hb0, hbel, hsz'⟩ := hrel
                have JB1 := Lib.hid hb1
                have JB0 := Lib.hid hb0
                have JBel := Lib.hid hbel
                clear hb1 hb0 hbel
                by_cases hjd : j ≤ c
                · go_wp2_with fail
                  refine (add_any (addN N c (j - c)) (w.heap.size + 1) [] 170 j (by omega) (by omega) wr JB1.out).mono ?_
                  rintro e w1 ⟨rfl, hW⟩
                  have HW := Lib.hid hW
                  clear hW
                  go_wp2
                  go_roundg (c + 1 - (j + 1))
                  case measure => omega
                  case rel =>
                    refine ⟨j + 1, by go_num, by omega, by omega, rfl, ?_, (HW.out.block _ (by omega)).trans JB0.out, JBel.out.trans (HW.out.below (by omega)), by rw [HW.out.size]; exact hsz'⟩
                    rw [show j + 1 - c = (j - c) + 1 by omega, addN, show c + (j - c) = j by omega]
                    exact HW.out.at_
                · have hj3 : j = c + 1 := by omega
                  subst hj3
                  go_wp2_with fail
                  go_roundg g
                  case measure => omega
                  case rel => exact ⟨(k + n), addN N c (c + 1 - c), by go_num, by omega, by omega, by rw [HR2.out, decide_eq_false (by omega), HE1.out], by omega, JB1.out, JB0.out, JBel.out, hsz'⟩
end Go.Proofs.YtghahghbahcpfaaGreatDoor.G6
