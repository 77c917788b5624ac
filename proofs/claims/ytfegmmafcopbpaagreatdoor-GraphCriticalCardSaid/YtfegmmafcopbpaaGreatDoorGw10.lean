/- The walk over Ready of package graph. -/
import Derived.Test.YtfegmmafcopbpaaGreatDoorGw8
import Derived.Shelf.SlicesE.IndexFunc
namespace Go.Proofs.YtfegmmafcopbpaaGreatDoor
open Go.RowKit


theorem rdyEnters : ∀ args w, (callFunc 51 args).run Tryz.prog w = .ok (.enter 51 args) w := enters_of Tryz.func51 (by kernel_rfl) rfl

abbrev strV (s : ByteArray) : Value := .string s

set_option maxRecDepth 100000 in
theorem rdy_gives (done : List Bs) (s : ByteArray) (bm cb : Nat) (W : World) (hc : W.cell? ⟨cb, 0, none⟩ = some (.map (some bm))) (hm : MapF .string Value.string W bm (seenF done)) : FnGives Tryz.prog 51 #[.pointer (some ⟨cb, 0, none⟩)] #[strV s] (.bool (!decide (s.data.toList ∈ done))) W := by
  have LK := MapF.lookup (P := Tryz.prog) hm Tryz.underlying74 Tryz.underlying9 (z := .bool false) (by kernel_rfl) (a := s) trivial false
  show Calls Tryz.prog 51 #[strV s, .pointer (some ⟨cb, 0, none⟩)] W _
  go_enter Tryz.func51, Tryz.ntmps51
  clear hm
  by_cases h : s.data.toList ∈ done
  · have e : seenF done s = some (.bool true) := by unfold seenF; rw [if_pos h]
    rw [e] at LK
    simp only [Option.getD_some, if_false, Bool.false_eq_true] at LK
    clear e
    go_wp2_with fail
    go_ret
    exact ⟨by simp [h], 0, rfl⟩
  · have e : seenF done s = none := by unfold seenF; rw [if_neg h]
    rw [e] at LK
    simp only [Option.getD_none, if_false, Bool.false_eq_true] at LK
    clear e
    go_wp2_with fail
    go_ret
    exact ⟨by simp [h], 0, rfl⟩

theorem con_any (done : List Bs) (v : Value) (ss : List ByteArray) (hl : ss.length ≤ 1000000) (bm cb : Nat) (w : World) (hs : StrsAt w v ss) (hc : w.cell? ⟨cb, 0, none⟩ = some (.map (some bm))) (hm : MapF .string Value.string w bm (seenF done)) :
    Calls Tryz.prog 50 #[v, .func (.func 51) #[] #[.pointer (some ⟨cb, 0, none⟩)]] w fun e w' => e = .returned (.bool (!(ss.map (·.data.toList)).all fun b => decide (b ∈ done))) ∧ ∃ q, w' = w.drewN q := by
  rcases hs with ⟨ao, cap, rfl, rfl⟩ | ⟨b, off, cap, rfl, hbl, hcap, hcells⟩
  · exact (Tryz.slices_ContainsFunc_empty_f50 (α := ByteArray) ao cap _ w).mono (by rintro e w' ⟨rfl, rfl⟩; exact ⟨rfl, 0, rfl⟩)
  · have hcl : cb < w.heap.size := World.block_lt_of_cell? w _ hc
    have hp : PredAt Tryz.prog 51 #[.pointer (some ⟨cb, 0, none⟩)] strV (fun s => !decide (s.data.toList ∈ done)) w := fun W x hb =>
      rdy_gives done x bm cb W ((hb.cell (p := ⟨cb, 0, none⟩) hcl).trans hc) (hm.below hb)
    refine (Tryz.slices_ContainsFunc_f50 strV (fun s => !decide (s.data.toList ∈ done)) 51 #[.pointer (some ⟨cb, 0, none⟩)] rdyEnters b off ss.length cap ss w hp (Nat.le_refl _) (by omega) (fun j hj => ?_)).mono ?_
    · rw [hcells j hj, List.getD, List.getElem?_eq_getElem hj]
      simp [List.getElem!_eq_getElem?_getD, List.getElem?_eq_getElem hj]
    · rintro e w' ⟨rfl, q, rfl⟩
      refine ⟨?_, q, rfl⟩
      rw [List.take_length, List.all_map, List.not_all_eq_any_not]
      rfl

def FinRel (w1 : World) (bm : Nat) (ss : List ByteArray) (f : Nat) (t23 : Value) (wr : World) : Prop :=
  ∃ k : Nat, t23 = .int .i64 (k : Nat) ∧ k ≤ ss.length ∧ f = ss.length - k ∧ Kp w1.heap.size (· = bm) w1 wr ∧ MapF .string Value.string wr bm (seenF ((ss.take k).map (·.data.toList)))

def rdyS (ns : List Nd) (done : List Bs) (k : Nat) : List ByteArray := ((List.range k).filter (rdyB (grO ns) done)).map fun j => (ns.getD j default).id
def RdyRel (w1 : World) (ns : List Nd) (done : List Bs) (f : Nat) (t32 t10 : Value) (wr : World) : Prop :=
  ∃ k : Nat, t32 = .int .i64 (k : Nat) ∧ k ≤ ns.length ∧ f = ns.length - k ∧ Below w1.heap.size w1 wr ∧ wr.ownsRow w1.heap.size 9 1 t10 (rdyS ns done k).length ((rdyS ns done k).map Value.string)

theorem rdyS_succ (ns : List Nd) (done : List Bs) (k : Nat) : rdyS ns done (k + 1) = rdyS ns done k ++ if rdyB (grO ns) done k = true then [(ns.getD k default).id] else [] := by
  unfold rdyS
  rw [List.range_succ, List.filter_append, List.map_append]
  congr 1
  by_cases h : rdyB (grO ns) done k = true
  · rw [if_pos h]; simp only [List.filter_cons, h, if_true, List.filter_nil, List.map_cons, List.map_nil]
  · rw [if_neg h]; simp only [List.filter_cons, h, if_false, List.filter_nil, List.map_nil, Bool.false_eq_true]
theorem rdyS_len (ns : List Nd) (done : List Bs) (k : Nat) : (rdyS ns done k).length ≤ k := by
  unfold rdyS
  rw [List.length_map]
  have := List.length_filter_le (rdyB (grO ns) done) (List.range k)
  rwa [List.length_range] at this
theorem rdyS_datas (ns : List Nd) (done : List Bs) : (rdyS ns done ns.length).map (·.data.toList) = readyL (grO ns) done := by
  unfold readyL rdyS
  rw [grO_len, List.map_map]
  apply List.map_congr_left
  intro j hj
  have hj' : j < ns.length := by
    rw [List.mem_filter, List.mem_range] at hj
    exact hj.1
  exact (grO_id ns hj').symm
end Go.Proofs.YtfegmmafcopbpaaGreatDoor
