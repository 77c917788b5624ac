/- A matrix as an argument, opened. -/
import Derived.Test.YtomecnncighkgaaGreatDoorMo1m
namespace Go.Proofs.YtomecnncighkgaaGreatDoor
open Go.ChangeShapes Go.WideShapes Go.ChangeAt Go.RowKit Go.Lib

section
variable {H : Type} {enc : TypeId × Value → H} {W : World}
set_option maxRecDepth 100000 in
theorem open_mat {base : Nat} {v : Value} {d : DataW H} {p : List MemPlace} (hv : Value.okWide Tryz.prog W .any base 25 v) (h : DataW.Trod enc Tryz.prog W 0 (fun _ => true) true 25 v d p) :
    ∃ m : MX, MAt (fun b => b < W.heap.size) W v m ∧ m.wf ∧ (Reach Tryz.prog 25 d → m.fit) := by
  obtain ⟨cs, rfl, _⟩ := okWide_struct Tryz.underlying25 hv
  obtain ⟨fuel, hf0⟩ := h
  obtain ⟨⟨fs, he, f0, f1, f2⟩, cM⟩ := mattypes
  obtain ⟨xs, m', hxx, hxa, hlen, hxl, hf⟩ := DataW.trod_struct he hf0
  rw [cM] at hlen
  have hl3 : cs.toList.length = 3 := hlen
  obtain ⟨a, b, c, hcs⟩ : ∃ a b c, cs.toList = [a, b, c] := by
    match h : cs.toList, hl3 with
    | [a, b, c], _ => exact ⟨a, b, c, rfl⟩
  have hcs2 : cs = #[a, b, c] := by apply Array.ext'; rw [hcs]
  subst hcs2
  obtain ⟨x0, y0, z0, g0⟩ := field_at2 hxl hf f0 (show Tryz.prog.cellsOf 22 = 1 by kernel_rfl)
  obtain ⟨x1, y1, z1, g1⟩ := field_at2 hxl hf f1 (show Tryz.prog.cellsOf 23 = 1 by kernel_rfl)
  obtain ⟨x2, y2, z2, g2⟩ := field_at2 hxl hf f2 (show Tryz.prog.cellsOf 23 = 1 by kernel_rfl)
  obtain ⟨A, ⟨hA, lA, wA⟩, rA, _⟩ := (o_ax (W := W)).row (by kernel_rfl) Tryz.underlying22 (show DataW.trod enc Tryz.prog W 0 (fun _ => true) true m' 22 [a] = some x0 from g0)
  obtain ⟨I, ⟨hI, lI, wI⟩, rI, _⟩ := (o_vars (W := W)).row (by kernel_rfl) Tryz.underlying23 (show DataW.trod enc Tryz.prog W 0 (fun _ => true) true m' 23 [b] = some x1 from g1)
  obtain ⟨E, ⟨hE, lE, wE⟩, rE, _⟩ := (o_vars (W := W)).row (by kernel_rfl) Tryz.underlying23 (show DataW.trod enc Tryz.prog W 0 (fun _ => true) true m' 23 [c] = some x2 from g2)
  obtain ⟨ao, ac, rfl⟩ := hA.form
  obtain ⟨io, ic, rfl⟩ := hI.form
  obtain ⟨eo, ec, rfl⟩ := hE.form
  refine ⟨⟨A, I, E⟩, ⟨ao, ac, io, ic, eo, ec, rfl, hA, hI, hE⟩, ⟨lA, lI, lE, wA, wI, wE⟩, fun hr => ?_⟩
  rw [show d = .agg (xs.map (·.1)) from congrArg Prod.fst hxa] at hr
  obtain ⟨qA, pA⟩ := rA (reach_field he y0 z0 hr)
  obtain ⟨qI, pI⟩ := rI (reach_field he y1 z1 hr)
  obtain ⟨qE, pE⟩ := rE (reach_field he y2 z2 hr)
  have hb := reachBytes_lt
  rw [show Tryz.prog.bytesOf 50 = 40 by kernel_rfl] at qA
  rw [show Tryz.prog.bytesOf 36 = 24 by kernel_rfl] at qI qE
  refine ⟨by show A.length ≤ _; omega, by show I.length ≤ _; omega, by show E.length ≤ _; omega, fun x hx => ?_, fun x hx => ?_, fun x hx => ?_⟩
  · have h1 := (pA x hx).1
    rw [show Tryz.prog.bytesOf 46 = 88 by kernel_rfl] at h1
    omega
  · have h1 := (pI x hx).1
    rw [show Tryz.prog.bytesOf 48 = 104 by kernel_rfl] at h1
    omega
  · have h1 := (pE x hx).1
    rw [show Tryz.prog.bytesOf 48 = 104 by kernel_rfl] at h1
    omega
end
end Go.Proofs.YtomecnncighkgaaGreatDoor
