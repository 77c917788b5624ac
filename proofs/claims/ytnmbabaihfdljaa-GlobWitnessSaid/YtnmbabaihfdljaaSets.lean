/- The walks over package glob's sets of bytes. -/
import Derived.Test.YtnmbabaihfdljaaRows
import Derived.Test.YtnmbabaihfdljaaBits
import Derived.Test.YtnmbabaihfdljaaBase
namespace Go.Proofs.Ytnmbabaihfdljaa
open Go.RowKit
open Bs

def setCells (n : Nat) : List Value := [.int .u64 (wd n 0 : Nat), .int .u64 (wd n 1 : Nat), .int .u64 (wd n 2 : Nat), .int .u64 (wd n 3 : Nat)]
abbrev setV (n : Nat) : Value := .agg #[.int .u64 (wd n 0 : Nat), .int .u64 (wd n 1 : Nat), .int .u64 (wd n 2 : Nat), .int .u64 (wd n 3 : Nat)]

theorem div_lt4 {k : Nat} (h : k < 256) : k / 64 = 0 ∨ k / 64 = 1 ∨ k / 64 = 2 ∨ k / 64 = 3 := by omega

set_option maxHeartbeats 400000 in
theorem has_any (n : Nat) (c : Int) (h0 : 0 ≤ c) (h1 : c < 256) (w : World) :
    Calls Try.prog 25 #[setV n, .int .u8 c] w fun e w' => e = .returned (.bool (n.testBit c.toNat)) ∧ Below w.heap.size w w' := by
  obtain ⟨k, rfl⟩ := Int.eq_ofNat_of_zero_le h0
  have hw := has_word n k
  have hk : k < 256 := by omega
  have hres : ∀ q : Nat, k / 64 = q → (bits .and .u64 (((wd n q : Nat) : Int) / 2 ^ (k % 64)) 1 == 1) = n.testBit k := by
    intro q e; subst e; exact hw
  rcases div_lt4 hk with hq | hq | hq | hq <;>
  · have hr := Lib.hid (hres _ hq)
    have hq' : (k : Int) / 64 = ((k / 64 : Nat) : Int) := by omega
    rw [hq] at hq'
    simp only [Int.cast_ofNat_Int] at hq'
    clear hw hres hq hk
    go_enter Try.func25, Try.ntmps25
    go_wp2
    go_ret
    refine ⟨?_, (Below.refl _ _).alloc (Nat.le_refl _) _⟩
    exact ret_bool hr.out

theorem set_cells (n m k : Nat) (hk : k < 256) (hs : ∀ i, i ≠ k / 64 → wd m i = wd n i) (rest : List Value) (v : Int) (hv : v = ((wd m (k / 64) : Nat) : Int)) :
    (setCells n ++ rest).toArray.setIfInBounds (k / 64) (.int .u64 v) = (setCells m ++ rest).toArray := by
  subst hv
  rcases div_lt4 hk with hq | hq | hq | hq <;> rw [hq] at hs ⊢
  · rw [setCells, setCells, hs 1 (by omega), hs 2 (by omega), hs 3 (by omega)]; simp
  · rw [setCells, setCells, hs 0 (by omega), hs 2 (by omega), hs 3 (by omega)]; simp
  · rw [setCells, setCells, hs 0 (by omega), hs 1 (by omega), hs 3 (by omega)]; simp
  · rw [setCells, setCells, hs 0 (by omega), hs 1 (by omega), hs 2 (by omega)]; simp

set_option maxHeartbeats 400000 in
theorem add_any (n : Nat) (b : Nat) (rest : List Value) (T : TypeId) (c : Int) (h0 : 0 ≤ c) (h1 : c < 256) (w : World) (hb : w.heap[b]? = some (.cells (setCells n ++ rest).toArray T (0, 0))) :
    Calls Try.prog 43 #[.pointer (some ⟨b, 0, none⟩), .int .u8 c] w fun e w' => e = .returned (.tuple #[]) ∧ Wrote b (.cells (setCells (add n c.toNat) ++ rest).toArray T (0, 0)) w w' := by
  obtain ⟨k, rfl⟩ := Int.eq_ofNat_of_zero_le h0
  have hk : k < 256 := by omega
  have hfin : Wrote b (.cells (setCells (add n k) ++ rest).toArray T (0, 0)) w (w.setCell ⟨b, k / 64, none⟩ (.int .u64 (bits BinOp.or IntKind.u64 ((wd n (k / 64) : Nat) : Int) (IntKind.u64.wrap (2 ^ (k % 64)))))) := by
    have := wrote_setCell hb (k / 64) (.int .u64 (bits BinOp.or IntKind.u64 ((wd n (k / 64) : Nat) : Int) (IntKind.u64.wrap (2 ^ (k % 64)))))
    rwa [set_cells n (add n k) k hk (fun i hi => wd_add_other n k i hi) rest _ (add_word n k)] at this
  have hfree := free_of_blk hb
  have hcell := cell_of_blk hb
  rcases div_lt4 hk with hq | hq | hq | hq <;>
  · have hq' : (k : Int) / 64 = ((k / 64 : Nat) : Int) := by omega
    rw [hq] at hq' hfin
    simp only [Int.cast_ofNat_Int] at hq'
    have g := hcell (k / 64)
    have f := hfree (k / 64)
    rw [hq] at g f
    simp [setCells] at g
    have HB := Lib.hid hfin
    clear hq hk hfree hcell hb hfin
    go_enter Try.func43, Try.ntmps43
    go_region
    go_end0
    exact ⟨rfl, HB.out.drew⟩

set_option maxHeartbeats 400000 in
theorem drop_any (n : Nat) (b : Nat) (rest : List Value) (T : TypeId) (c : Int) (h0 : 0 ≤ c) (h1 : c < 256) (w : World) (hb : w.heap[b]? = some (.cells (setCells n ++ rest).toArray T (0, 0))) :
    Calls Try.prog 41 #[.pointer (some ⟨b, 0, none⟩), .int .u8 c] w fun e w' => e = .returned (.tuple #[]) ∧ Wrote b (.cells (setCells (del n c.toNat) ++ rest).toArray T (0, 0)) w w' := by
  obtain ⟨k, rfl⟩ := Int.eq_ofNat_of_zero_le h0
  have hk : k < 256 := by omega
  have hfin : Wrote b (.cells (setCells (del n k) ++ rest).toArray T (0, 0)) w (w.setCell ⟨b, k / 64, none⟩ (.int .u64 (bits BinOp.andNot IntKind.u64 ((wd n (k / 64) : Nat) : Int) (IntKind.u64.wrap (2 ^ (k % 64)))))) := by
    have := wrote_setCell hb (k / 64) (.int .u64 (bits BinOp.andNot IntKind.u64 ((wd n (k / 64) : Nat) : Int) (IntKind.u64.wrap (2 ^ (k % 64)))))
    rwa [set_cells n (del n k) k hk (fun i hi => wd_del_other n k i hi) rest _ (del_word n k)] at this
  have hfree := free_of_blk hb
  have hcell := cell_of_blk hb
  rcases div_lt4 hk with hq | hq | hq | hq <;>
  · have hq' : (k : Int) / 64 = ((k / 64 : Nat) : Int) := by omega
    rw [hq] at hq' hfin
    simp only [Int.cast_ofNat_Int] at hq'
    have g := hcell (k / 64)
    have f := hfree (k / 64)
    rw [hq] at g f
    simp [setCells] at g
    have HB := Lib.hid hfin
    clear hq hk hfree hcell hb hfin
    go_enter Try.func41, Try.ntmps41
    go_region
    go_end0
    exact ⟨rfl, HB.out.drew⟩

set_option maxHeartbeats 400000 in
theorem meets_any (n m : Nat) (w : World) :
    Calls Try.prog 29 #[setV n, setV m] w fun e w' => e = .returned (.bool (meet n m)) ∧ Below w.heap.size w w' := by
  have HB := Lib.hid (meet_words n m)
  go_enter Try.func29, Try.ntmps29
  go_wp2
  go_ret
  exact ⟨ret_bool HB.out, ((Below.refl _ _).alloc (Nat.le_refl _) _).alloc (by simp) _⟩

def full : Nat := 2 ^ 256 - 1
theorem wd_full : wd full 0 = 18446744073709551615 ∧ wd full 1 = 18446744073709551615 ∧ wd full 2 = 18446744073709551615 ∧ wd full 3 = 18446744073709551615 := by decide

theorem full_blk (w : World) (T : TypeId) (f : Nat × Nat) (o : Obj) (h : o = .cells #[.int .u64 18446744073709551615, .int .u64 18446744073709551615, .int .u64 18446744073709551615, .int .u64 18446744073709551615] T f) : (w.alloc o).heap[w.heap.size]? = some (.cells (setCells full ++ []).toArray T f) := by
  subst h
  obtain ⟨h0, h1, h2, h3⟩ := wd_full
  rw [hp_new rfl]
  simp [setCells, h0, h1, h2, h3]

theorem blk4 {w : World} {b : Nat} {T : TypeId} {v0 v1 v2 v3 : Value} (h : w.heap[b]? = some (.cells #[v0, v1, v2, v3] T (0, 0))) :
    (w.cell? ⟨b, 0, none⟩ = some v0 ∧ w.cell? ⟨b, 1, none⟩ = some v1 ∧ w.cell? ⟨b, 2, none⟩ = some v2 ∧ w.cell? ⟨b, 3, none⟩ = some v3) ∧
    (w.frozen? ⟨b, 0, none⟩ = false ∧ w.frozen? ⟨b, 1, none⟩ = false ∧ w.frozen? ⟨b, 2, none⟩ = false ∧ w.frozen? ⟨b, 3, none⟩ = false) := by
  refine ⟨⟨?_, ?_, ?_, ?_⟩, free_of_blk h _, free_of_blk h _, free_of_blk h _, free_of_blk h _⟩ <;> (rw [cell_of_blk h]; rfl)

set_option maxHeartbeats 400000 in
theorem most_false (w : World) :
    Calls Try.prog 37 #[.bool false] w fun e w' => e = .returned (setV (del full 47)) ∧ Below w.heap.size w w' := by
  go_enter Try.func37, Try.ntmps37
  go_wp2_with fail
  refine (drop_any full (w.heap.size + 1) [] 43 47 (by omega) (by omega) _ (by have := full_blk (w.alloc (Obj.cells #[.int .u64 0, .int .u64 0, .int .u64 0, .int .u64 0] 43)) 43 (0, 0) _ rfl; simpa using this)).mono ?_
  rintro e w1 ⟨rfl, hW⟩
  obtain ⟨⟨a0, a1, a2, a3⟩, _⟩ := blk4 (v0 := .int .u64 (wd (del full 47) 0 : Nat)) (v1 := .int .u64 (wd (del full 47) 1 : Nat)) (v2 := .int .u64 (wd (del full 47) 2 : Nat)) (v3 := .int .u64 (wd (del full 47) 3 : Nat)) hW.at_
  have hold := hW.block w.heap.size (by omega)
  rw [hp_old (by simp), hp_new rfl] at hold
  obtain ⟨⟨b0, b1, b2, b3⟩, f0, f1, f2, f3⟩ := blk4 hold
  have HB : Hid (Below w.heap.size w w1) := (((Below.refl _ _).alloc (Nat.le_refl _) _).alloc (by simp) _).trans (hW.below (by omega))
  clear hW hold
  go_wp2
  refine bodyPost_ret (v := setV (del full 47)) ?_ rfl ⟨rfl, ?_⟩
  · simp [results, Try.results37, go_sem, *]
  · exact (((HB.out.setCell (by simp) _).setCell (by simp) _).setCell (by simp) _).setCell (by simp) _

set_option maxHeartbeats 400000 in
theorem most_true (w : World) :
    Calls Try.prog 37 #[.bool true] w fun e w' => e = .returned (setV full) ∧ Below w.heap.size w w' := by
  obtain ⟨h0, h1, h2, h3⟩ := wd_full
  go_enter Try.func37, Try.ntmps37
  clear h0 h1 h2 h3
  go_wp2
  refine bodyPost_ret (v := setV full) ?_ rfl ⟨rfl, ?_⟩
  · obtain ⟨h0, h1, h2, h3⟩ := wd_full
    simp [results, Try.results37, go_sem, h0, h1, h2, h3]
  · exact ((Below.refl _ _).alloc (Nat.le_refl _) _).alloc (by simp) _

/-- an element of a pattern, as the program has it -/
structure El where
  set : Nat
  many : Bool
  lit : Bool
  ch : Nat

def El.cells (e : El) : List Value := setCells e.set ++ [.bool e.many, .bool e.lit, .int .u8 (e.ch : Nat)]
abbrev El.val (e : El) : Value := .agg #[.int .u64 (wd e.set 0 : Nat), .int .u64 (wd e.set 1 : Nat), .int .u64 (wd e.set 2 : Nat), .int .u64 (wd e.set 3 : Nat), .bool e.many, .bool e.lit, .int .u8 (e.ch : Nat)]

def litEl (c : Nat) : El := { set := add 0 c, many := false, lit := true, ch := c }

theorem wd_zero : wd 0 0 = 0 ∧ wd 0 1 = 0 ∧ wd 0 2 = 0 ∧ wd 0 3 = 0 := by decide

set_option maxHeartbeats 400000 in
theorem literal_any (c : Int) (c0 : 0 ≤ c) (c1 : c < 256) (w : World) :
    Calls Try.prog 39 #[.int .u8 c] w fun e w' => e = .returned (litEl c.toNat).val ∧ Below w.heap.size w w' := by
  obtain ⟨k, rfl⟩ := Int.eq_ofNat_of_zero_le c0
  go_enter Try.func39, Try.ntmps39
  go_wp2_with fail
  refine (add_any 0 (w.heap.size + 1) [.bool false, .bool true, .int .u8 (k : Nat)] 45 k c0 c1 _ (by
    obtain ⟨h0, h1, h2, h3⟩ := wd_zero
    rw [hp_new (by simp)]; simp [setCells, h0, h1, h2, h3])).mono ?_
  rintro e w1 ⟨rfl, hW⟩
  have hold := hW.block w.heap.size (by omega)
  rw [hp_old (by simp), hp_new rfl] at hold
  have hnew := hW.at_
  have HB : Hid (Below w.heap.size w w1) := (((Below.refl _ _).alloc (Nat.le_refl _) _).alloc (by simp) _).trans (hW.below (by omega))
  have HO := Lib.hid hold
  have HN : Hid (w1.heap[w.heap.size + 1]? = some (.cells #[.int .u64 (wd (add 0 k) 0 : Nat), .int .u64 (wd (add 0 k) 1 : Nat), .int .u64 (wd (add 0 k) 2 : Nat), .int .u64 (wd (add 0 k) 3 : Nat), .bool false, .bool true, .int .u8 (k : Nat)] 45 (0, 0))) := hnew
  clear hW hold hnew
  go_wp2_with (first | (refine wpList_load_row rfl 45 _ rfl _ rfl 45 _ (0, 0) _ HN.out Try.underlying45 rfl (by kernel_rfl) ?_) | (refine wpList_store_row rfl 45 _ _ rfl _ rfl 45 _ HO.out (litEl k).val rfl (by kernel_rfl) rfl rfl ?_; intro w2 hW2; have HW2 := Lib.hid hW2; clear hW2))
  refine bodyPost_ret (v := (litEl k).val) ?_ rfl ⟨rfl, ?_⟩
  · exact results_cell_row rfl _ _ _ 45 _ (0, 0) _ rfl HW2.out.at_ Try.underlying45 rfl (by kernel_rfl)
  · exact HB.out.trans (HW2.out.below (Nat.le_refl _))
end Go.Proofs.Ytnmbabaihfdljaa
