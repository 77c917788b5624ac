/- Lists of structs whose names are no longer than a string can be; what fails after Apply. Plain, no walk. -/
import Derived.Test.YthnodeicbicjcaaDoorQopen
import Derived.Test.YthnodeicbicjcaaDoorNatS
namespace Go.Proofs.YthnodeicbicjcaaDoor
open Go.ChangeShapes Go.WideShapes Go.Deep Go.RowKit

/-- elements that a string's bound holds of -/
abbrev QuB := { q : Qu // q.name.size ≤ 9223372036854775807 }

theorem quB_at {w : World} {v : Value} {xs : List QuB} (h : SlAt 3 (fun q : QuB => q.1.cells) w v xs) : QuAt w v (xs.map (·.1)) ∧ ∀ q ∈ xs.map (·.1), q.name.size ≤ 9223372036854775807 := by
  refine ⟨?_, fun q hq => ?_⟩
  · rcases h with ⟨ao, cap, rfl, rfl⟩ | ⟨b, off, cap, rfl, h2, h3⟩
    · exact .inl ⟨ao, cap, rfl, rfl⟩
    · refine .inr ⟨b, off, cap, by rw [List.length_map], h2, fun k hk j u hu => ?_⟩
      have hk' : k < xs.length := by simpa using hk
      rw [List.getElem_map] at hu
      exact h3 k hk' j u hu
  · obtain ⟨x, _, rfl⟩ := List.mem_map.1 hq
    exact x.2

section
variable {H : Type} {enc : TypeId × Value → H} {P : Program} {w : World}
theorem struct_quB {e : TypeId} {fs : Array Field} (he : P.underlying e = some (.struct fs)) (hC : P.cellsOf e = 3) (h0 : (fs[0]?).map (fun f => (f.type, f.offset)) = some (9, 0)) (h1 : (fs[1]?).map (fun f => (f.type, f.offset)) = some (3, 1)) (h2 : (fs[2]?).map (fun f => (f.type, f.offset)) = some (3, 2))
    (c9 : P.cellsOf 9 = 1) (c3 : P.cellsOf 3 = 1) (u9 : P.underlying 9 = some .string) (u3 : P.underlying 3 = some (.int .i64)) :
    ∀ (n : Nat) (cs : List Value) (x : DataW H × List MemPlace), DataW.trod enc P w 0 (fun _ => true) true n e cs = some x → ∃ y : QuB, cs = y.1.cells := by
  intro n cs x hx
  obtain ⟨xs, m, _, _, hlen, hxl, hf⟩ := DataW.trod_struct he hx
  rw [hC] at hlen
  obtain ⟨a, b, c, rfl⟩ := three_of hlen
  obtain ⟨x0, g0⟩ := field_at hxl hf h0 c9
  obtain ⟨x1, g1⟩ := field_at hxl hf h1 c3
  obtain ⟨x2, g2⟩ := field_at hxl hf h2 c3
  obtain ⟨s, e0, _, hs⟩ := DataW.trod_string u9 g0
  obtain ⟨k1, e1, _⟩ := DataW.trod_int u3 g1
  obtain ⟨k2, e2, _⟩ := DataW.trod_int u3 g2
  simp at e0 e1 e2
  exact ⟨⟨⟨s, k1, k2⟩, hs⟩, by rw [e0, e1, e2]; rfl⟩
end

theorem ap_fail (qs : List Qu) (now : Int) (r : Qu) : decide ((apF qs now r).since = 2) = (decide (r.since = 2) && !qs.any (actF r.name now)) := by
  unfold apF
  by_cases h : r.since = 2
  · cases ha : qs.any (actF r.name now) with
    | true => rw [if_pos ⟨h, rfl⟩]; simp
    | false => rw [if_neg (by simp)]; simp [h]
  · rw [if_neg (fun k => h k.1)]
    simp [h]

def failN (rs : List Qu) : List ByteArray := (rs.filter fun r => decide (r.since = 2)).map (·.name)
def spareF (rs qs : List Qu) (now : Int) (k : Nat) : Bool := (rs.take k).any fun r => decide (r.since = 2) && !qs.any (actF r.name now)
theorem spareF_succ {rs qs : List Qu} {now : Int} {k : Nat} (hk : k < rs.length) : spareF rs qs now (k + 1) = (spareF rs qs now k || (decide (rs[k].since = 2) && !qs.any (actF rs[k].name now))) := by
  unfold spareF
  rw [List.take_add_one, List.any_append, List.getElem?_eq_getElem hk]
  simp
theorem sort_pos (L : List Bs) : decide (0 < (sortF L).length) = decide (0 < L.length) := by
  rw [decide_eq_decide, List.length_pos_iff_exists_mem, List.length_pos_iff_exists_mem]
  exact exists_congr fun x => (sortF_asc L).2 x
theorem fail_pos (rs qs : List Qu) (now : Int) : decide (0 < (failN (rs.map (apF qs now))).length) = spareF rs qs now rs.length := by
  unfold spareF failN
  rw [List.take_length, Bool.eq_iff_iff, decide_eq_true_eq, List.any_eq_true, List.length_map, List.length_pos_iff_exists_mem]
  constructor
  · rintro ⟨y, hy⟩
    obtain ⟨h1, h2⟩ := List.mem_filter.1 hy
    obtain ⟨r, hr, rfl⟩ := List.mem_map.1 h1
    exact ⟨r, hr, by rw [← ap_fail]; exact h2⟩
  · rintro ⟨r, hr, h⟩
    exact ⟨apF qs now r, List.mem_filter.2 ⟨List.mem_map.2 ⟨r, hr, rfl⟩, by rw [ap_fail]; exact h⟩⟩
end Go.Proofs.YthnodeicbicjcaaDoor
