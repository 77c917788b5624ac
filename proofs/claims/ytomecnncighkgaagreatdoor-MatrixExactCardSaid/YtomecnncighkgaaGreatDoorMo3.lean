/- Lists of bytes as arguments, opened; owned lists in a box. -/
import Derived.Test.YtomecnncighkgaaGreatDoorMo2
namespace Go.Proofs.YtomecnncighkgaaGreatDoor
open Go.ChangeShapes Go.WideShapes Go.ChangeAt Go.RowKit Go.Lib

/-- numbers of eight bits -/
def EU8 : ElemK Nat := cellK (fun n => Value.int .u8 (n : Nat)) fun _ => rfl
section
variable {H : Type} {enc : TypeId × Value → H} {W : World}
theorem o_u8 : Opens enc Tryz.prog W EU8 (fun n => n ≤ 255) (fun _ => True) (fun _ => 0) 5 := fun n cs x hx => by
  obtain ⟨k, e0, q0, w0⟩ := DataW.trod_int Tryz.underlying5 hx
  obtain ⟨a, rfl, ha⟩ := u8_nat w0
  exact ⟨a, ⟨e0, ha⟩, fun _ => trivial, Nat.zero_le _⟩
set_option maxRecDepth 100000 in
theorem open_u8s {base : Nat} {v : Value} {d : DataW H} {p : List MemPlace} (hv : Value.okWide Tryz.prog W .any base 39 v) (h : DataW.Trod enc Tryz.prog W 0 (fun _ => true) true 39 v d p) :
    ∃ L : List Nat, EU8.Row (fun b => b < W.heap.size) W L v ∧ L.length ≤ 9223372036854775807 ∧ ∀ n ∈ L, n ≤ 255 := by
  obtain ⟨ao, len, cap, rfl⟩ := okWide_slice Tryz.underlying39 hv
  obtain ⟨fuel, hf⟩ := h
  obtain ⟨L, ⟨h1, h2, h3⟩, _, _⟩ := (o_u8 (W := W)).row (by kernel_rfl) Tryz.underlying39 (show DataW.trod enc Tryz.prog W 0 (fun _ => true) true fuel 39 [.slice ao len cap] = some (d, p) from hf)
  exact ⟨L, h1, h2, h3⟩
end
theorem u8_at {B : Nat → Prop} {w : World} {L : List Nat} {ao : Option Addr} {n cap : Nat} (h : EU8.Row B w L (.slice ao n cap)) {k : Nat} (hk : k < L.length) :
    ∃ bl off, ao = some ⟨bl, off, none⟩ ∧ bl < w.heap.size ∧ w.cell? ⟨bl, off + k, none⟩ = some (.int .u8 (L[k] : Nat)) := by
  obtain ⟨bl, off, cs, rfl, _, h2, hc, hR⟩ := h.at hk
  have hR : cs = [Value.int .u8 (L[k] : Nat)] := hR
  subst hR
  have e0 : w.cell? ⟨bl, off + k * 1 + 0, none⟩ = _ := hc 0 _ rfl
  rw [Nat.add_zero, Nat.mul_one] at e0
  exact ⟨bl, off, rfl, h2, e0⟩
end Go.Proofs.YtomecnncighkgaaGreatDoor
