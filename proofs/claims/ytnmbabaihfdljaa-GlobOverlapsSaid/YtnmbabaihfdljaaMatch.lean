/- The walks over package glob's Match: the closure skip. -/
import Derived.Test.YtnmbabaihfdljaaLit2
namespace Go.Proofs.Ytnmbabaihfdljaa
open Go.RowKit
open Bs

abbrev absE (L : List El) : List AE := L.map El.abs

theorem absE_getD {L : List El} {k : Nat} (hk : k < L.length) : (absE L).getD k (false, fun _ => false) = L[k].abs := by
  simp [absE, List.getD, hk]

theorem set_self (o : List Bool) (i : Nat) (h : i < o.length) : o.set i (o.getD i false) = o := by
  apply List.ext_getElem?
  intro j
  rw [List.getElem?_set]
  by_cases hj : i = j
  · subst hj; simp [h, List.getD]
  · simp [hj]

theorem closeTo_succ {L : List El} {on : List Bool} {i : Nat} (hk : i < L.length) (hl : on.length = L.length + 1) :
    closeTo (absE L) on (i + 1) = (closeTo (absE L) on i).set (i + 1) ((closeTo (absE L) on i).getD (i + 1) false || (closeTo (absE L) on i).getD i false && L[i].many) := by
  rw [closeTo, absE_getD hk]
  show (if (closeTo (absE L) on i).getD i false && L[i].many then _ else _) = _
  cases h : ((closeTo (absE L) on i).getD i false && L[i].many) with
  | true => simp
  | false => rw [Bool.or_false, set_self _ _ (by rw [closeTo_length, hl]; omega)]; rfl

def SkipPost (L : List El) (on : List Bool) (base : Nat) (av : Value) (w : World) (e : Ending) (w' : World) : Prop :=
  e = .returned (.tuple #[]) ∧ BRow w' base av (closeTo (absE L) on L.length) ∧ w.grownBy w' av.ownBlock

def SkipRel (L : List El) (on : List Bool) (base : Nat) (av : Value) (w : World) (f : Nat) (t6 : Value) (wr : World) : Prop :=
  ∃ i, t6 = .int .i64 (i : Nat) ∧ i ≤ L.length ∧ f = L.length - i ∧ BRow wr base av (closeTo (absE L) on i) ∧ w.grownBy wr av.ownBlock

theorem grownBy_trans {w w1 w2 : World} {row : Option Nat} (h : w.grownBy w1 row) (h' : w1.grownBy w2 row) : w.grownBy w2 row :=
  ⟨h'.os.trans h.os, h'.tape.trans h.tape, h'.output.trans h.output, Nat.le_trans h.size h'.size, fun k hk hne => (h'.block k (Nat.lt_of_lt_of_le hk h.size) hne).trans (h.block k hk hne)⟩
theorem grownBy_alloc {w w1 : World} {row : Option Nat} (h : w.grownBy w1 row) (o : Obj) : w.grownBy (w1.alloc o) row := grownBy_trans h (World.grownBy_alloc _ _ _)
theorem grownBy_setCell {w w1 : World} {g : Nat} (h : w.grownBy w1 (some g)) (j : Nat) (v : Value) : w.grownBy (w1.setCell ⟨g, j, none⟩ v) (some g) :=
  grownBy_trans h ⟨rfl, rfl, rfl, by simp [World.setCell], fun k _ hne => Below.heap_setCell _ _ _ _ (by rintro rfl; exact hne rfl)⟩
theorem grownBy_drew {w w1 : World} {row : Option Nat} (h : w.grownBy w1 row) : w.grownBy w1.drew row := ⟨h.os, h.tape, h.output, h.size, h.block⟩

theorem BRow_drew {w : World} {base : Nat} {v : Value} {bs : List Bool} (h : BRow w base v bs) : BRow w.drew base v bs := h

set_option maxRecDepth 100000 in
set_option maxHeartbeats 1600000 in
theorem skip_any (L : List El) (on : List Bool) (bl ba baseL base : Nat) (lv av : Value) (hL : L.length ≤ 4096) (hon : on.length = L.length + 1) (w : World)
    (hbl : w.heap[bl]? = some (.cells #[lv] 34 (0, 0))) (hba : w.heap[ba]? = some (.cells #[av] 40 (0, 0))) (hown : w.ownsRow baseL 45 7 lv L.length (L.flatMap El.cells)) (hrow : BRow w base av on)
    (h1 : av.ownBlock ≠ some bl) (h2 : av.ownBlock ≠ some ba) (h3 : lv.ownBlock = none ∨ lv.ownBlock ≠ av.ownBlock) :
    Calls Try.prog 24 #[.pointer (some ⟨bl, 0, none⟩), .pointer (some ⟨ba, 0, none⟩)] w (SkipPost L on base av w) := by
  obtain ⟨ao, cap, rfl⟩ := ownsRow_form hown
  obtain ⟨g, c0, hv, hbg, hgw, _, _, _⟩ := BRow_open hrow (by omega)
  rw [hon] at hv
  subst hv
  have hcl : w.cell? ⟨bl, 0, none⟩ = some (.slice ao L.length cap) := by rw [cell_of_blk hbl]; rfl
  have HBA := Lib.hid hba
  have HOWN := Lib.hid hown
  have HROW := Lib.hid hrow
  have HON := Lib.hid hon
  have H2 : Hid (ba ≠ g) := fun e => h2 (by rw [e]; rfl)
  have H3 := Lib.hid h3
  clear hbl hba hown hrow h1 h2 h3 hon
  go_enter Try.func24, Try.ntmps24
  go_wp2_with fail
  go_loopg [6] L.length (SkipRel L on base (.slice (some ⟨g, 0, none⟩) (L.length + 1) c0) w)
  case atStart => exact ⟨0, rfl, Nat.zero_le _, rfl, HROW.out, World.grownBy.refl _ _⟩
  case round =>
    obtain ⟨i, rfl, hi, hf, hr, hgr⟩ := hrel
    have HR := Lib.hid hr
    have HGR := Lib.hid hgr
    have HF := Lib.hid hf
    clear hr hgr hf
    by_cases hend : i = L.length
    · subst hend
      go_wp2
      go_end0
      exact ⟨rfl, HR.out, HGR.out⟩
    · have hlt : i < L.length := by omega
      clear hend
      have hownr : wr.ownsRow baseL 45 7 (.slice ao L.length cap) L.length (L.flatMap El.cells) := HOWN.out.kept HGR.out H3.out
      obtain ⟨ge, ce, hve, _, hge, k0, k1, k2, k3, k4, k5, k6⟩ := el_at hownr hlt
      injection hve with e1 e2 e3
      subst e1
      subst e3
      have hbar : wr.heap[ba]? = some (.cells #[.slice (some ⟨g, 0, none⟩) (L.length + 1) c0] 40 (0, 0)) := by
        rw [HGR.out.block ba (Array.getElem?_eq_some_iff.1 HBA.out).1 (by intro e; injection e with e; exact H2.out e)]; exact HBA.out
      have hca : wr.cell? ⟨ba, 0, none⟩ = some (.slice (some ⟨g, 0, none⟩) (L.length + 1) c0) := by rw [cell_of_blk hbar]; rfl
      have hbaw : ba < wr.heap.size := (Array.getElem?_eq_some_iff.1 hbar).1
      obtain ⟨_, hgw2, hc, hfz, hset⟩ := BRow_lit HR.out (by rw [closeTo_length, HON.out]; omega)
      have hcl := closeTo_length (absE L) on i
      rw [HON.out] at hcl
      have hc0 := hc i (by omega)
      have hc1 := hc (i + 1) (by omega)
      have hf1 := hfz (i + 1)
      have HSET := Lib.hid (fun b => hset (i + 1) b (by omega))
      have HCS := Lib.hid (closeTo_succ hlt HON.out)
      have q1 : (i : Int) < (L.length : Int) + 1 := by omega
      have q2 : (i : Int) + 1 < (L.length : Int) + 1 := by omega
      have q3 : (0 : Int) ≤ (i : Int) + 1 := by omega
      clear hc hfz hset hcl hownr hbar
      generalize (closeTo (absE L) on i).getD (i + 1) false = b1 at *
      generalize (closeTo (absE L) on i).getD i false = b0 at *
      generalize hE : L[i] = E at *
      cases b1 with
      | true =>
        go_wp2_with fail
        go_region
        go_wp2
        go_roundg (L.length - (i + 1))
        case measure => have := HF.out; omega
        case rel =>
          refine ⟨i + 1, by go_num, by omega, rfl, ?_, grownBy_drew (grownBy_alloc (grownBy_setCell HGR.out _ _) _)⟩
          rw [HCS.out]
          exact World.ownsRow.alloc (HSET.out true) _
      | false =>
        cases b0 with
        | true =>
          go_wp2_with fail
          go_region
          go_wp2
          go_roundg (L.length - (i + 1))
          case measure => have := HF.out; omega
          case rel =>
            refine ⟨i + 1, by go_num, by omega, rfl, ?_, grownBy_drew (grownBy_alloc (grownBy_setCell HGR.out _ _) _)⟩
            rw [HCS.out]
            exact World.ownsRow.alloc (HSET.out E.many) _
        | false =>
          go_wp2_with fail
          go_region
          go_wp2
          go_roundg (L.length - (i + 1))
          case measure => have := HF.out; omega
          case rel =>
            refine ⟨i + 1, by go_num, by omega, rfl, ?_, grownBy_drew (grownBy_alloc (grownBy_setCell HGR.out _ _) _)⟩
            rw [HCS.out]
            exact World.ownsRow.alloc (HSET.out false) _
end Go.Proofs.Ytnmbabaihfdljaa
