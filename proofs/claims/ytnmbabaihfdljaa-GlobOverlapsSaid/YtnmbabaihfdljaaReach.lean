/- The walk over the closure of package glob's Overlaps. -/
import Derived.Test.YtnmbabaihfdljaaMaps
namespace Go.Proofs.Ytnmbabaihfdljaa
open Go.RowKit
open Bs

def flatO (O : List (Nat × Nat)) : List Value := O.flatMap fun p => [.int .i64 (p.1 : Nat), .int .i64 (p.2 : Nat)]
theorem flatO_snoc (O : List (Nat × Nat)) (p : Nat × Nat) : flatO (O ++ [p]) = flatO O ++ [.int .i64 (p.1 : Nat), .int .i64 (p.2 : Nat)] := by simp [flatO]

structure SeenOpen (w1 w : World) (bs bo bm : Nat) (S : List (Nat × Nat)) (ov : Value) (O : List (Nat × Nat)) : Prop where
  hs : w.heap[bs]? = some (.cells #[.map (some bm)] 56 (0, 0))
  ho : w.heap[bo]? = some (.cells #[ov] 57 (0, 0))
  hm : MSet w bm S
  row : w.ownsRow w1.heap.size 55 2 ov O.length (flatO O)
  n1 : ov.ownBlock ≠ some bs
  n2 : ov.ownBlock ≠ some bo
  n3 : ov.ownBlock ≠ some bm
  d1 : bs ≠ bo
  d2 : bs ≠ bm
  d3 : bo ≠ bm
  l1 : w1.heap.size ≤ bs
  l2 : w1.heap.size ≤ bo
  l3 : w1.heap.size ≤ bm
  bel : Below w1.heap.size w1 w
  sz : w1.heap.size ≤ w.heap.size

def addS (S : List (Nat × Nat)) (p : Nat × Nat) : List (Nat × Nat) := if p ∈ S then S else S ++ [p]
def addO (S O : List (Nat × Nat)) (p : Nat × Nat) : List (Nat × Nat) := if p ∈ S then O else O ++ [p]

theorem MSet_of_block {w w' : World} {bm : Nat} {S : List (Nat × Nat)} (h : MSet w bm S) (hb : w'.heap[bm]? = w.heap[bm]?) : MSet w' bm S := by
  obtain ⟨es, clock, h1, h2⟩ := h
  exact ⟨es, clock, hb.trans h1, h2⟩
theorem MSet_lt {w : World} {bm : Nat} {S : List (Nat × Nat)} (h : MSet w bm S) : bm < w.heap.size := by
  obtain ⟨es, clock, h1, h2⟩ := h
  exact (Array.getElem?_eq_some_iff.1 h1).1

theorem Try.info55 : (Try.prog.info? 55).map (fun i => (i.zero, i.size, i.bytes)) = some (some (.agg #[.int .i64 0, .int .i64 0]), 2, 16) := by kernel_rfl
theorem Try.info55' : ∃ i, Try.prog.info? 55 = some i ∧ i.zero = some (.agg #[.int .i64 0, .int .i64 0]) ∧ i.size = 2 ∧ i.bytes = 16 := info_parts Try.info55

def ReachPost (w1 : World) (bs bo bm : Nat) (S O : List (Nat × Nat)) (p : Nat × Nat) (e : Ending) (w' : World) : Prop :=
  e = .returned (.tuple #[]) ∧ ∃ ov', SeenOpen w1 w' bs bo bm (addS S p) ov' (addO S O p)

set_option maxRecDepth 100000 in
set_option maxHeartbeats 1600000 in
theorem reach_any (p : Nat × Nat) (a b : Int) (ha : a = (p.1 : Nat)) (hb : b = (p.2 : Nat)) (w1 w : World) (bs bo bm : Nat) (S O : List (Nat × Nat)) (ov : Value) (hO : O.length ≤ 100000000) (h : SeenOpen w1 w bs bo bm S ov O) :
    Calls Try.prog 28 #[.int .i64 a, .int .i64 b, .pointer (some ⟨bs, 0, none⟩), .pointer (some ⟨bo, 0, none⟩)] w (ReachPost w1 bs bo bm S O p) := by
  subst ha
  subst hb
  have cs : w.cell? ⟨bs, 0, none⟩ = some (.map (some bm)) := by rw [cell_of_blk h.hs]; rfl
  have hbsw := (Array.getElem?_eq_some_iff.1 h.hs).1
  have hbow := (Array.getElem?_eq_some_iff.1 h.ho).1
  have hbmw := MSet_lt h.hm
  have H := Lib.hid h
  obtain ⟨i5, hi5⟩ := Try.info55'
  have HI5 := Lib.hid hi5
  obtain ⟨ao, cap, hov⟩ := ownsRow_form h.row
  have hms : MSet (w.alloc (.cells #[.int .i64 (p.1 : Nat), .int .i64 (p.2 : Nat)] 55)) bm S := MSet_of_block h.hm (hp_old hbmw)
  have HMS := Lib.hid hms
  clear h hi5 hms
  go_enter Try.func28, Try.ntmps28
  by_cases hp : p ∈ S
  · have hd : decide (p ∈ S) = true := by simp [hp]
    have HS1 : Hid (addS S p = S) := by unfold addS; rw [if_pos hp]; rfl
    have HO1 : Hid (addO S O p = O) := by unfold addO; rw [if_pos hp]; rfl
    clear hp
    go_wp2_with (at_lookup; refine wpList_lookup55 rfl _ _ rfl bm rfl p rfl S HMS.out ?_)
    go_end0
    refine ⟨rfl, ov, ?_⟩
    rw [HS1.out, HO1.out]
    have h := H.out
    exact ⟨(hp_old hbsw).trans h.hs, (hp_old hbow).trans h.ho, HMS.out, h.row.alloc _, h.n1, h.n2, h.n3, h.d1, h.d2, h.d3, h.l1, h.l2, h.l3, h.bel.alloc h.sz _, by have := h.sz; simp; omega⟩
  · have hd : decide (p ∈ S) = false := by simp [hp]
    have HS1 : Hid (addS S p = S ++ [p]) := by unfold addS; rw [if_neg hp]; rfl
    have HO1 : Hid (addO S O p = O ++ [p]) := by unfold addO; rw [if_neg hp]; rfl
    have HP := Lib.hid hp
    clear hp
    subst hov
    go_wp2_with (first | (at_lookup; refine wpList_lookup55 rfl _ _ rfl bm rfl p rfl S HMS.out ?_) | (refine wpList_update55 rfl _ _ _ rfl bm rfl p rfl rfl S HMS.out HP.out ?_))
    intro o' w2 hW2 hm2
    have HW2 := Lib.hid hW2
    have HM2 := Lib.hid hm2
    have cb0 : w2.cell? ⟨w.heap.size, 0, none⟩ = some (.int .i64 (p.1 : Nat)) := by rw [World.cell?_of_block (hW2.block _ (by show w.heap.size ≠ bm; omega))]; simp
    have cb1 : w2.cell? ⟨w.heap.size, 1, none⟩ = some (.int .i64 (p.2 : Nat)) := by rw [World.cell?_of_block (hW2.block _ (by show w.heap.size ≠ bm; omega))]; simp
    have ho2 : w2.heap[bo]? = some (.cells #[.slice ao O.length cap] 57 (0, 0)) := ((hW2.block _ H.out.d3).trans ((hp_old hbow).trans H.out.ho))
    have co2 : w2.cell? ⟨bo, 0, none⟩ = some (.slice ao O.length cap) := by rw [cell_of_blk ho2]; rfl
    have hz2 : w2.heap.size = w.heap.size + 1 := by rw [hW2.size]; simp
    have HO2 := Lib.hid ho2
    have HZ2 := Lib.hid hz2
    have hrow2 := ownsRow_wrote2 (H.out.row.alloc (.cells #[.int .i64 (p.1 : Nat), .int .i64 (p.2 : Nat)] 55)) hW2 H.out.n3
    have HR2 := Lib.hid hrow2
    have hw2 : w1.heap.size ≤ w2.heap.size := by have := H.out.sz; omega
    clear hW2 hm2 ho2 hz2 hrow2
    go_wp2_with (at_builtin; refine wpList_append2 rfl _ _ 57 rfl w1.heap.size 55 i5 (.agg #[.int .i64 0, .int .i64 0]) 2 16 Try.underlying57 HI5.out rfl (by decide) _ _ _ rfl (HR2.out.alloc _) ⟨w2.heap.size, 0, none⟩ 1 1 [.int .i64 (p.1 : Nat), .int .i64 (p.2 : Nat)] rfl rfl (cells_newAt rfl _ 55 (0, 0)) rfl (by unfold maxLen; omega) (by omega) (by simp; omega) ?_)
    intro v' w3 hown3 hgrow3 hwh3
    obtain ⟨ao', cap', rfl⟩ := ownsRow_form hown3
    have hbo3 : w3.heap[bo]? = some (.cells #[.slice ao O.length cap] 57 (0, 0)) := (hgrow3.block bo (by have := HZ2.out; simp; omega) (fun e => H.out.n2 e.symm)).trans ((hp_old (by have := HZ2.out; omega)).trans HO2.out)
    have co3 : w3.cell? ⟨bo, 0, none⟩ = some (.slice ao O.length cap) := by rw [cell_of_blk hbo3]; rfl
    have fo3 := free_of_blk hbo3 0
    have HOW3 := Lib.hid hown3
    have HG3 := Lib.hid hgrow3
    have HWH3 := Lib.hid hwh3
    have HBO3 := Lib.hid hbo3
    clear hown3 hgrow3 hwh3 hbo3
    go_wp2
    go_end0
    have hW := wrote_setCell HBO3.out 0 (.slice ao' (O.length + 1) cap')
    have h := H.out
    have hz2 := HZ2.out
    have hg := HG3.out
    have hz3 := hg.size
    simp only [World.size_alloc] at hz3
    have hlen : (O ++ [p]).length = O.length + 1 := by simp
    have hne : ∀ j, j < w2.heap.size → some j ≠ (Value.slice ao O.length cap).ownBlock → w3.heap[j]? = w2.heap[j]? := fun j hj hn => (hg.block j (by simp; omega) hn).trans (hp_old hj)
    have hown' : ∀ j, j < w2.heap.size → some j ≠ (Value.slice ao O.length cap).ownBlock → (Value.slice ao' (O.length + 1) cap').ownBlock ≠ some j := by
      intro j hj hn e
      rcases HWH3.out with h | h
      · rw [h] at e; exact hn e.symm
      · rw [h] at e; injection e with e; first | omega | (simp at e; omega)
    refine ⟨rfl, .slice ao' (O.length + 1) cap', ?_⟩
    rw [HS1.out, HO1.out]
    refine ⟨?_, ?_, ?_, ?_, ?_, ?_, ?_, h.d1, h.d2, h.d3, h.l1, h.l2, h.l3, ?_, ?_⟩
    · rw [hW.block _ h.d1, hne bs (by omega) (fun e => h.n1 e.symm), HW2.out.block _ h.d2, hp_old hbsw]; exact h.hs
    · exact hW.at_
    · refine MSet_of_block (MSet_of_block HM2.out (hne bm (by omega) (fun e => h.n3 e.symm))) (hW.block _ h.d3.symm)
    · rw [flatO_snoc, hlen]
      exact ownsRow_wrote2 HOW3.out hW (hown' bo (by omega) (fun e => h.n2 e.symm))
    · exact hown' bs (by omega) (fun e => h.n1 e.symm)
    · exact hown' bo (by omega) (fun e => h.n2 e.symm)
    · exact hown' bm (by omega) (fun e => h.n3 e.symm)
    · have b2 : Below w1.heap.size w1 w2 := (h.bel.alloc h.sz _).trans (HW2.out.below h.l3)
      exact ((b2.alloc hw2 _).grown hg (by simp; omega) (fun k hk => (h.row.lt k hk).1)).trans (hW.below h.l2)
    · rw [hW.size]; omega
end Go.Proofs.Ytnmbabaihfdljaa
