/- The steps of the matching, on lists of bools; slices of bools of the call's own. -/
import Derived.Test.YtghahghbahcpfaaGreatDoorVg3
import Derived.StillTailTactics
namespace Go.Proofs.YtghahghbahcpfaaGreatDoor.G6
open Go.RowKit
open Bs

/-- an element: does it match any number of bytes, and which bytes does it match? -/
abbrev AE := Bool × (Nat → Bool)

def closeTo (A : List AE) (on : List Bool) : Nat → List Bool
  | 0 => on
  | i + 1 => if (closeTo A on i).getD i false && (A.getD i (false, fun _ => false)).1 then (closeTo A on i).set (i + 1) true else closeTo A on i

def stepTo (A : List AE) (on : List Bool) (c : Nat) : Nat → List Bool
  | 0 => List.replicate (A.length + 1) false
  | i + 1 => if on.getD i false && (A.getD i (false, fun _ => false)).2 c then
      (if (A.getD i (false, fun _ => false)).1 then (stepTo A on c i).set i true else (stepTo A on c i).set (i + 1) true) else stepTo A on c i

theorem closeTo_length (A : List AE) (on : List Bool) (i : Nat) : (closeTo A on i).length = on.length := by
  induction i with
  | zero => rfl
  | succ i ih => rw [closeTo]; split <;> simp [ih]

theorem stepTo_length (A : List AE) (on : List Bool) (c : Nat) (i : Nat) : (stepTo A on c i).length = A.length + 1 := by
  induction i with
  | zero => simp [stepTo]
  | succ i ih => rw [stepTo]; (repeat' split) <;> simp [ih]

/-- the elements that k bytes can have left behind them -/
def onAt (A : List AE) (l : List UInt8) : Nat → List Bool
  | 0 => (List.replicate (A.length + 1) false).set 0 true
  | k + 1 => stepTo A (closeTo A (onAt A l k) A.length) (l.getD k 0).toNat A.length

theorem onAt_length (A : List AE) (l : List UInt8) (k : Nat) : (onAt A l k).length = A.length + 1 := by
  cases k with
  | zero => simp [onAt]
  | succ k => exact stepTo_length _ _ _ _

def matchF (A : List AE) (l : List UInt8) : Bool := (closeTo A (onAt A l l.length) A.length).getD A.length false

/-- a slice of bools of the call's own -/
def BRow (w : World) (base : Nat) (v : Value) (bs : List Bool) : Prop := w.ownsRow base 4 1 v bs.length (bs.map Value.bool)

theorem BRow_open {w : World} {base : Nat} {v : Value} {bs : List Bool} (h : BRow w base v bs) (hne : 0 < bs.length) :
    ∃ g cap, v = .slice (some ⟨g, 0, none⟩) bs.length cap ∧ base ≤ g ∧ g < w.heap.size ∧ (∀ i, i < bs.length → w.cell? ⟨g, i, none⟩ = some (.bool (bs.getD i false))) ∧ (∀ i, w.frozen? ⟨g, i, none⟩ = false) ∧
      (∀ i b, i < bs.length → BRow (w.setCell ⟨g, i, none⟩ (.bool b)) base v (bs.set i b)) := by
  obtain ⟨hl, hr⟩ := h
  rcases hr with ⟨_, h0⟩ | ⟨g, cap, cur, hv, hb, hg, hn, hm, hs, ht⟩
  · omega
  · have hcur : ∀ i, i < bs.length → cur[i]? = some (.bool (bs.getD i false)) := by
      intro i hi
      have : (cur.toList.take (bs.length * 1))[i]? = (bs.map Value.bool)[i]? := by rw [ht]
      rw [List.getElem?_take, if_pos (by omega)] at this
      rw [← Array.getElem?_toList, this]
      simp [List.getD, hi]
    refine ⟨g, cap, hv, hb, (Array.getElem?_eq_some_iff.1 hg).1, ?_, fun i => free_of_blk hg i, ?_⟩
    · intro i hi
      rw [cell_of_blk hg, hcur i hi]
    · intro i b hi
      have hW := wrote_setCell hg i (.bool b)
      refine ⟨by simp, .inr ⟨g, cap, _, by rw [List.length_set]; exact hv, hb, hW.at_, by rw [List.length_set]; exact hn, hm, by simp [hs], ?_⟩⟩
      rw [Array.toList_setIfInBounds, List.take_set, List.length_set, ht]
      rw [List.map_set]

theorem BRow_lit {w : World} {base g n cap : Nat} {bs : List Bool} (h : BRow w base (.slice (some ⟨g, 0, none⟩) n cap) bs) (hne : 0 < bs.length) :
    base ≤ g ∧ g < w.heap.size ∧ (∀ i, i < bs.length → w.cell? ⟨g, i, none⟩ = some (.bool (bs.getD i false))) ∧ (∀ i, w.frozen? ⟨g, i, none⟩ = false) ∧
      (∀ i b, i < bs.length → BRow (w.setCell ⟨g, i, none⟩ (.bool b)) base (.slice (some ⟨g, 0, none⟩) n cap) (bs.set i b)) := by
  obtain ⟨g', cap', hv, h1, h2, h3, h4, h5⟩ := BRow_open h hne
  injection hv with e1 e2 e3
  injection e1 with e1
  injection e1 with e1
  subst e1
  exact ⟨h1, h2, h3, h4, h5⟩

theorem madeBools (n : Nat) : (madeCells (Value.bool false).cells (n * 1)).toList = (List.replicate n false).map Value.bool := by
  simp [madeCells, Value.cells, Nat.mod_one, List.map_const']

theorem Tryz.infoG4 : (Tryz.prog.info? 4).map (fun i => (i.zero, i.size, i.bytes)) = some (some (.bool false), 1, 1) := by kernel_rfl
theorem Tryz.infoG4' : ∃ i, Tryz.prog.info? 4 = some i ∧ i.zero = some (.bool false) ∧ i.size = 1 ∧ i.bytes = 1 := info_parts Tryz.infoG4

def RE.abs (e : RE) : AE := (e.many, e.fits)
def El.abs (e : El) : AE := (e.many, fun c => e.set.testBit c)
end Go.Proofs.YtghahghbahcpfaaGreatDoor.G6
/- The walk over the reference's matches. -/
namespace Go.Proofs.YtghahghbahcpfaaGreatDoor.G6
open Go.RowKit
open Bs

theorem BRow_below {w w1 : World} {base : Nat} {v : Value} {bs : List Bool} (h : BRow w base v bs) (hb : Below w.heap.size w w1) : BRow w1 base v bs := ownsRow_below h hb

end Go.Proofs.YtghahghbahcpfaaGreatDoor.G6
/- The walks over the reference's Match, Any, Literal. -/
namespace Go.Proofs.YtghahghbahcpfaaGreatDoor.G6
open Go.RowKit
open Bs

/-- a slice of strings that can be read -/
def StrsAt (w : World) (v : Value) (ss : List ByteArray) : Prop :=
  (∃ ao cap, v = .slice ao 0 cap ∧ ss = []) ∨ ∃ b off cap, v = .slice (some ⟨b, off, none⟩) ss.length cap ∧ b < w.heap.size ∧ ∀ i, i < ss.length → w.cell? ⟨b, off + i, none⟩ = some (.string (ss.getD i ByteArray.empty))

theorem StrsAt.below {w w1 : World} {v : Value} {ss : List ByteArray} (h : StrsAt w v ss) (hb : Below w.heap.size w w1) : StrsAt w1 v ss := by
  rcases h with h | ⟨b, off, cap, h1, h2, h3⟩
  · exact .inl h
  · exact .inr ⟨b, off, cap, h1, Nat.lt_of_lt_of_le h2 hb.size, fun i hi => by rw [hb.cell (p := ⟨b, off + i, none⟩) h2]; exact h3 i hi⟩

theorem StrsAt.form {w : World} {v : Value} {ss : List ByteArray} (h : StrsAt w v ss) : ∃ ao cap, v = .slice ao ss.length cap := by
  rcases h with ⟨ao, cap, rfl, rfl⟩ | ⟨b, off, cap, h1, _⟩
  · exact ⟨ao, cap, rfl⟩
  · exact ⟨_, _, h1⟩

theorem StrsAt.at_ {w : World} {ao : Option Addr} {n cap : Nat} {ss : List ByteArray} (h : StrsAt w (.slice ao n cap) ss) {i : Nat} (hi : i < ss.length) :
    ∃ b off, ao = some ⟨b, off, none⟩ ∧ w.cell? ⟨b, off + i, none⟩ = some (.string (ss.getD i ByteArray.empty)) := by
  rcases h with ⟨_, _, _, rfl⟩ | ⟨b, off, cap', h1, _, h3⟩
  · cases hi
  · injection h1 with e1 e2 e3
    exact ⟨b, off, e1, h3 i hi⟩

end Go.Proofs.YtghahghbahcpfaaGreatDoor.G6
