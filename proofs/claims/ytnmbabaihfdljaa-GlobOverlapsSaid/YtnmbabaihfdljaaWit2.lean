/- The walk over the reference's put. -/
import Derived.Test.YtnmbabaihfdljaaWit1
namespace Go.Proofs.Ytnmbabaihfdljaa
open Go.RowKit
open Bs

/-- a place, how it was reached -/
structure Plc where
  a : Nat
  b : Nat
  from_ : Nat
  moved : Bool
  byte : Nat

def Plc.cells (p : Plc) : List Value := [.int .i64 (p.a : Nat), .int .i64 (p.b : Nat), .int .i64 (p.from_ : Nat), .bool p.moved, .int .u8 (p.byte : Nat)]
theorem Plc.cells_len (p : Plc) : p.cells.length = 5 := rfl

def hasL (ps : List Plc) (p : Plc) : Bool := ps.any fun x => decide (x.a = p.a ∧ x.b = p.b)
def putL (ps : List Plc) (p : Plc) : List Plc := if hasL ps p then ps else ps ++ [p]

theorem putL_old {ps : List Plc} {p : Plc} {i : Nat} (hi : i < ps.length) (h : ps[i].a = p.a ∧ ps[i].b = p.b) : putL ps p = ps := by
  have : hasL ps p = true := by
    unfold hasL
    rw [List.any_eq_true]
    exact ⟨ps[i], List.getElem_mem hi, by simp [h]⟩
  unfold putL
  rw [if_pos this]

theorem hasL_snoc {ps : List Plc} {p : Plc} {i : Nat} (hi : i < ps.length) (h : hasL (ps.take i) p = false) (hne : ¬ (ps[i].a = p.a ∧ ps[i].b = p.b)) : hasL (ps.take (i + 1)) p = false := by
  rw [List.take_add_one, List.getElem?_eq_getElem hi]
  unfold hasL at h ⊢
  rw [List.any_append, h]
  simp only [Option.toList_some, List.any_cons, List.any_nil, Bool.or_false, Bool.false_or, decide_eq_false_iff_not]
  exact hne

theorem Try.info63 : (Try.prog.info? 63).map (fun i => (i.zero, i.size, i.bytes)) = some (some (.agg #[.int .i64 0, .int .i64 0, .int .i64 0, .bool false, .int .u8 0]), 5, 32) := by kernel_rfl
theorem Try.info63' : ∃ i, Try.prog.info? 63 = some i ∧ i.zero = some (.agg #[.int .i64 0, .int .i64 0, .int .i64 0, .bool false, .int .u8 0]) ∧ i.size = 5 ∧ i.bytes = 32 := info_parts Try.info63

def PutPost (ps : List Plc) (p : Plc) (base : Nat) (v : Value) (w : World) (e : Ending) (w' : World) : Prop :=
  ∃ v' : Value, e = .returned v' ∧ w'.ownsRow base 63 5 v' (putL ps p).length ((putL ps p).flatMap Plc.cells) ∧ w.grownBy w' v.ownBlock ∧ (v'.ownBlock = v.ownBlock ∨ ∃ n, v'.ownBlock = some n ∧ w.heap.size ≤ n)

def PutRel (w1 : World) (ps : List Plc) (p : Plc) (f : Nat) (t5 : Value) (wr : World) : Prop :=
  ∃ i : Nat, t5 = .int .i64 (i : Nat) ∧ i ≤ ps.length ∧ f = ps.length - i ∧ hasL (ps.take i) p = false ∧ Below w1.heap.size w1 wr

theorem grownBy_of_below {w w' : World} {row : Option Nat} (h : Below w.heap.size w w') : w.grownBy w' row := ⟨h.os, h.tape, h.output, h.size, fun k hk _ => h.block k hk⟩

set_option maxRecDepth 100000 in
set_option maxHeartbeats 1600000 in
theorem put_any (ps : List Plc) (p : Plc) (v : Value) (base : Nat) (w : World) (hbase : base ≤ w.heap.size) (hn : ps.length ≤ 100000) (hrow : w.ownsRow base 63 5 v ps.length (ps.flatMap Plc.cells)) :
    Calls Try.prog 35 #[v, .agg #[.int .i64 (p.a : Nat), .int .i64 (p.b : Nat), .int .i64 (p.from_ : Nat), .bool p.moved, .int .u8 (p.byte : Nat)]] w (PutPost ps p base v w) := by
  obtain ⟨ao, cap, rfl⟩ := ownsRow_form hrow
  have HR := Lib.hid hrow
  obtain ⟨i63, hi63⟩ := Try.info63'
  have HI := Lib.hid hi63
  clear hrow hi63
  go_enter Try.func35, Try.ntmps35
  go_wp2_with fail
  refine (show ∀ w1 : World, Below w.heap.size w w1 → w1.heap[w.heap.size]? = some (.cells #[.int .i64 (p.a : Nat), .int .i64 (p.b : Nat), .int .i64 (p.from_ : Nat), .bool p.moved, .int .u8 (p.byte : Nat)] 63) → Code.wp Try.prog _ _ _ w1 from ?_) _ ?_ ?_
  rotate_left
  · exact (Below.refl _ _).alloc (Nat.le_refl _) _
  · exact hp_new rfl
  · intro w1 hb1 hA
    have HB1 := Lib.hid hb1
    have HA := Lib.hid hA
    have hz1 := (Array.getElem?_eq_some_iff.1 hA).1
    clear hb1 hA
    go_loopg [5] ps.length (PutRel w1 ps p)
    case atStart => exact ⟨0, rfl, Nat.zero_le _, rfl, rfl, Below.refl _ _⟩
    case round =>
      obtain ⟨i, rfl, hi, rfl, hno, hbel⟩ := hrel
      have HNO := Lib.hid hno
      have HBel := Lib.hid hbel
      have HRr := Lib.hid (ownsRow_below (ownsRow_below HR.out HB1.out) (HBel.out.mono (by omega)))
      have hzr := hbel.size
      clear hno hbel
      have p0 : wr.cell? ⟨w.heap.size, 0, none⟩ = some (.int .i64 (p.a : Nat)) := by rw [HBel.out.cell (p := ⟨w.heap.size, 0, none⟩) (by simp; omega), cell_of_blk HA.out]; rfl
      have p1 : wr.cell? ⟨w.heap.size, 1, none⟩ = some (.int .i64 (p.b : Nat)) := by rw [HBel.out.cell (p := ⟨w.heap.size, 1, none⟩) (by simp; omega), cell_of_blk HA.out]; rfl
      have p2 : wr.cell? ⟨w.heap.size, 2, none⟩ = some (.int .i64 (p.from_ : Nat)) := by rw [HBel.out.cell (p := ⟨w.heap.size, 2, none⟩) (by simp; omega), cell_of_blk HA.out]; rfl
      have p3 : wr.cell? ⟨w.heap.size, 3, none⟩ = some (.bool p.moved) := by rw [HBel.out.cell (p := ⟨w.heap.size, 3, none⟩) (by simp; omega), cell_of_blk HA.out]; rfl
      have p4 : wr.cell? ⟨w.heap.size, 4, none⟩ = some (.int .u8 (p.byte : Nat)) := by rw [HBel.out.cell (p := ⟨w.heap.size, 4, none⟩) (by simp; omega), cell_of_blk HA.out]; rfl
      by_cases hlt : i < ps.length
      · obtain ⟨g, c, hv, hbg, hgw, _, hcs⟩ := ownsRow_at (f := Plc.cells) HRr.out Plc.cells_len (by decide) hlt
        injection hv with e1 e2 e3
        subst e1
        have g0 := hcs 0 _ rfl
        have g1 := hcs 1 _ rfl
        simp only [Nat.add_zero] at g0
        clear hcs e2 e3
        have hii : (i : Int) < (ps.length : Int) := by omega
        by_cases hsame : ps[i].a = p.a ∧ ps[i].b = p.b
        · have t1 : (((ps[i].a : Nat) : Int) == ((p.a : Nat) : Int)) = true := by simp [hsame.1]
          have t2 : (((ps[i].b : Nat) : Int) == ((p.b : Nat) : Int)) = true := by simp [hsame.2]
          have HP := Lib.hid (putL_old (p := p) hlt hsame)
          clear hsame
          go_wp2_with fail
          go_region
          go_wp2
          go_ret
          refine ⟨_, rfl, ?_, grownBy_of_below (HB1.out.trans (HBel.out.mono (by omega))).drew, .inl rfl⟩
          rw [HP.out]
          exact HRr.out
        · have HNS := Lib.hid hsame
          by_cases ha : ps[i].a = p.a
          · have t1 : (((ps[i].a : Nat) : Int) == ((p.a : Nat) : Int)) = true := by simp [ha]
            have t2 : (((ps[i].b : Nat) : Int) == ((p.b : Nat) : Int)) = false := by rw [beq_eq_false_iff_ne]; intro e; exact HNS.out ⟨ha, by omega⟩
            clear ha hsame
            go_wp2_with fail
            go_region
            go_wp2
            go_roundg (ps.length - (i + 1))
            case measure => omega
            case rel => exact ⟨i + 1, by go_num, by omega, rfl, hasL_snoc hlt HNO.out HNS.out, HBel.out.drew⟩
          · have t1 : (((ps[i].a : Nat) : Int) == ((p.a : Nat) : Int)) = false := by rw [beq_eq_false_iff_ne]; omega
            clear ha hsame
            go_wp2_with fail
            go_region
            go_wp2
            go_roundg (ps.length - (i + 1))
            case measure => omega
            case rel => exact ⟨i + 1, by go_num, by omega, rfl, hasL_snoc hlt HNO.out HNS.out, HBel.out.drew⟩
      · have hP : putL ps p = ps ++ [p] := by
          have h := HNO.out
          rw [List.take_of_length_le (by omega)] at h
          unfold putL
          rw [h]
          rfl
        have HP := Lib.hid hP
        clear hP
        go_wp2_with (at_builtin; refine wpList_append2 rfl _ _ 60 rfl base 63 i63 (.agg #[.int .i64 0, .int .i64 0, .int .i64 0, .bool false, .int .u8 0]) 5 32 Try.underlying60 HI.out rfl (by decide) _ _ _ rfl (HRr.out.alloc _) ⟨wr.heap.size, 0, none⟩ 1 1 p.cells rfl rfl (cells_newAt rfl _ 63 (0, 0)) rfl (by unfold maxLen; omega) (by omega) (by simp; omega) ?_)
        intro v' w2 hown hgrow hwh
        obtain ⟨ao', cap', rfl⟩ := ownsRow_form hown
        have HOWN := Lib.hid hown
        have HGR := Lib.hid hgrow
        have HWH := Lib.hid hwh
        clear hown hgrow hwh
        go_wp2
        go_ret
        refine ⟨_, rfl, ?_, ?_, ?_⟩
        · rw [HP.out, List.flatMap_append, List.length_append]
          have := HOWN.out
          simpa using this
        · exact grownBy_trans (grownBy_alloc (grownBy_of_below (HB1.out.trans (HBel.out.mono (by omega)))) _) HGR.out
        · rcases HWH.out with h | h
          · exact .inl h
          · exact .inr ⟨_, h, by omega⟩
end Go.Proofs.Ytnmbabaihfdljaa
