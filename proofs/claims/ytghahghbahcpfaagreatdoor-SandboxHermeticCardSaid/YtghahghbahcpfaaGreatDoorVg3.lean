/- The walks over the reference's parser: last, member, class. -/
import Derived.Test.YtghahghbahcpfaaGreatDoorVg2
import Derived.Deep.CutBlock
namespace Go.Proofs.YtghahghbahcpfaaGreatDoor.G6
open Go.RowKit
open Bs

end Go.Proofs.YtghahghbahcpfaaGreatDoor.G6
/- The walk over the reference's Elems. -/
namespace Go.Proofs.YtghahghbahcpfaaGreatDoor.G6
open Go.RowKit
open Bs

/-- an element of a pattern, as the reference has it -/
structure RE where
  kind : Nat
  items : List (Nat × Nat)

def CutA (wr : World) (c k : Nat) (s6 s7 s8 : Value) (wx : World) : Prop :=
  ∃ b sv, s6 = .pointer (some ⟨b, 0, none⟩) ∧ s7 = .int .i64 ((k : Int) + 1) ∧ s8 = .bool true ∧ wx.heap[b]? = some (.cells #[.int .i64 5, sv] 206 (0, 0)) ∧
    wx.ownsRow wr.heap.size 203 2 sv 1 [.int .u8 (c : Nat), .int .u8 (c : Nat)] ∧ wr.heap.size ≤ b ∧ Below wr.heap.size wr wx ∧ wr.heap.size + 2 ≤ wx.heap.size

theorem CutA.drew {wr : World} {c k : Nat} {s6 s7 s8 : Value} {wx : World} (h : CutA wr c k s6 s7 s8 wx) : CutA wr c k s6 s7 s8 wx.drew := by
  obtain ⟨b, sv, h1, h2, h3, h4, h5, h6, h7, h8⟩ := h
  exact ⟨b, sv, h1, h2, h3, h4, h5, h6, h7.drew, h8⟩

end Go.Proofs.YtghahghbahcpfaaGreatDoor.G6
/- The walks over the reference's Valid, many, fits. -/
namespace Go.Proofs.YtghahghbahcpfaaGreatDoor.G6
open Go.RowKit
open Bs

def RE.many (e : RE) : Bool := e.kind == 1 || e.kind == 2

def RE.fits (e : RE) (c : Nat) : Bool :=
  if e.kind = 1 then true else if e.kind ≠ 5 ∧ c = 47 then false else if e.kind = 2 ∨ e.kind = 3 then true else e.items.any fun p => decide (p.1 ≤ c ∧ c ≤ p.2)

end Go.Proofs.YtghahghbahcpfaaGreatDoor.G6
