/- The walks over Sorted. -/
import Derived.Test.YtngbjnjkcniabaaGreatDoorNw2
import Derived.Test.YtngbjnjkcniabaaGreatDoorIdent4
import Derived.Test.YtngbjnjkcniabaaGreatDoorShelfs
import Derived.Shelf.SlSortCmp.NoneTotal
import Derived.Lib.RowBridge
namespace Go.Proofs.YtngbjnjkcniabaaGreatDoor
open Go.RowKit

/-- byte strings no longer than a string can be -/
abbrev LS := { l : Bs // l.length ≤ 9223372036854775807 }
instance : Inhabited LS := ⟨⟨[], by decide⟩⟩
def encL (x : LS) : Value := .string ⟨x.1.toArray⟩
def cfL (x y : LS) : Int := natC x.1 y.1
def toLS (s : ByteArray) : LS := if h : s.data.toList.length ≤ 9223372036854775807 then ⟨s.data.toList, h⟩ else ⟨[], by decide⟩
theorem toLS_val {s : ByteArray} (h : s.size ≤ 9223372036854775807) : (toLS s).1 = s.data.toList ∧ encL (toLS s) = .string s := by
  have h' : s.data.toList.length ≤ 9223372036854775807 := by rw [← Lib.size_eq]; exact h
  unfold encL toLS
  rw [dif_pos h']
  exact ⟨rfl, by rw [Lib.mk_data]⟩

open Go.Sort in
theorem ls_swo : SWO (ltOf cfL) where
  irrefl x := nat_swo.irrefl x.1
  trans x y z := nat_swo.trans x.1 y.1 z.1
  ntrans x y z := nat_swo.ntrans x.1 y.1 z.1

open Go.Sort Go.Lib Go.Shelf in
theorem ls_lays (blk off size : Nat) (w : World) : CmpLays1 Tryz.prog 44 #[] encL cfL blk off size w := fun m os dk _ x y =>
  (compare_any ⟨x.1.toArray⟩ ⟨y.1.toArray⟩ (by rw [size_arr]; exact x.2) (by rw [size_arr]; exact y.2) _).mono (by
    rintro e w' ⟨he, hu⟩
    exact ⟨he, hu.grown⟩)

theorem compareEnters : ∀ args w, (callFunc 44 args).run Tryz.prog w = .ok (.enter 44 args) w := enters_of Tryz.func44 (by kernel_rfl) rfl

open Go.Lib in
theorem compact_sorted' (l : List Bs) (d : Array Bs) (hmem : ∀ x, x ∈ d.toList ↔ x ∈ l) (hle : ∀ i j, i < j → j < d.size → natC d[i]! d[j]! ≤ 0) : compactUpTo d d.size = sortF l := by
  obtain ⟨h1, h2, _⟩ := compact_asc d hle d.size (Nat.le_refl _)
  obtain ⟨h3, h4⟩ := sortF_asc l
  refine asc_ext _ _ h1 h3 fun x => ?_
  rw [h2, h4, ← hmem, Array.mem_toList_iff, Array.mem_iff_getElem]
  constructor
  · rintro ⟨j, hj, e⟩; exact ⟨j, hj, by rw [← e, getElem!_pos d j hj]⟩
  · rintro ⟨j, hj, e⟩; exact ⟨j, hj, by rw [getElem!_pos d j hj]; exact e⟩

open Go.Sort in
theorem below_putRow {α : Type} [Inhabited α] (enc : α → Value) {B : Nat} (w : World) (blk off : Nat) (d : Array α) (h : B ≤ blk) : RowKit.Below B w (putRow enc w blk off d) :=
  ⟨rfl, rfl, rfl, by rw [size_putRow]; exact Nat.le_refl _, fun k hk => by
    show (w.heap.modify blk _)[k]? = w.heap[k]?
    rw [Array.getElem?_modify, if_neg (by omega)]⟩

open Go.Sort Go.Lib in
theorem below_ahd {B : Nat} (w : World) (n : Nat) : RowKit.Below B w (Sort.ahead w n) := ⟨rfl, rfl, rfl, Nat.le_refl _, fun _ _ => rfl⟩
open Go.Sort Go.Lib in
theorem below_sort {B : Nat} (w : World) (blk off n : Nat) (d : Array LS) (os : Array Obj) (h : B ≤ blk) (hw : B ≤ w.heap.size) : RowKit.Below B w (sortWorld encL w blk off n d os) := by
  unfold sortWorld
  refine (below_ahd w n).trans ((below_putRow encL (Sort.ahead w n) blk off d h).trans ?_)
  exact ⟨rfl, rfl, rfl, by simp [grow], fun k hk => by
    have : k < (putRow encL (Sort.ahead w n) blk off d).heap.size := by rw [size_putRow]; exact Nat.lt_of_lt_of_le hk hw
    show ((putRow encL (Sort.ahead w n) blk off d).heap ++ os)[k]? = _
    rw [Array.getElem?_append_left this]⟩

def SortPost (l : List Bs) (w : World) (e : Ending) (w' : World) : Prop := ∃ v ss, e = .returned v ∧ StrsAt w' v ss ∧ ss.map (·.data.toList) = sortF l ∧ RowKit.Below w.heap.size w w'

set_option maxRecDepth 100000 in
theorem clip_any (ao : Option Addr) (n cap : Nat) (hc : n ≤ cap) (w : World) : Calls Tryz.prog 60 #[.slice ao n cap] w fun e w' => e = .returned (.slice ao n n) ∧ w' = w := by
  have q1 : (n : Int) ≤ (cap : Int) := by omega
  go_enter Tryz.func60, Tryz.ntmps60
  go_wp2_with fail
  go_ret
  exact ⟨rfl, rfl⟩

open Go.Sort Go.Lib in
/-- the part behind Clone: sorted, cleared, clipped -/
theorem sorted_row (w0 w1 : World) (g cap : Nat) (ss : List ByteArray) (cur : Array Value) (hl : ss.length ≤ 1000000) (hsz : ∀ s ∈ ss, s.size ≤ 9223372036854775807) (hg : w0.heap.size ≤ g) (hh : w1.heap[g]? = some (.cells cur 9 (0, 0))) (hcur : cur.toList.take ss.length = ss.map Value.string) (hb : RowKit.Below w0.heap.size w0 w1) :
    Calls Tryz.prog 59 #[.slice (some ⟨g, 0, none⟩) ss.length cap, .func (.func 44) #[] #[]] w1 fun e w2 => e = .returned (.tuple #[]) ∧ ∃ zs : List Bs, zs.length = ss.length ∧ Holds encStr w2 g 0 zs.toArray ∧ Lib.compact zs = sortF (ss.map (·.data.toList)) ∧ RowKit.Below w0.heap.size w0 w2 := by
  have hH : Holds encL w1 g 0 (ss.map toLS).toArray := by
    intro j hj
    have hj' : j < ss.length := by simpa using hj
    have e1 : ((ss.map toLS).toArray)[j]! = toLS ss[j] := by
      rw [getElem!_pos _ j hj]; simp
    have e2 : cur[j]? = some (.string ss[j]) := by
      have := congrArg (·[j]?) hcur
      simp only [List.getElem?_take, if_pos hj', List.getElem?_map, List.getElem?_eq_getElem hj', Option.map_some] at this
      simpa using this
    rw [e1, (toLS_val (hsz _ (List.getElem_mem hj'))).2, Nat.zero_add]
    exact ⟨by rw [cell_of_blk hh]; exact e2, free_of_blk hh j⟩
  have hd : (ss.map toLS).toArray.size = ss.length := by simp
  have hblk : g < w1.heap.size := (Array.getElem?_eq_some_iff.1 hh).1
  have := Tryz.slices_SortFunc encL (fun _ => rfl) cfL ls_swo 44 #[] g 0 cap (ss.map toLS).toArray w1 compareEnters (ls_lays _ _ _ _) hH hblk (by rw [hd]; omega)
  rw [hd] at this
  refine this.mono ?_
  rintro e w2 ⟨he, d', n, os, hp, hs, hw⟩
  obtain ⟨hz, _, hperm⟩ := hp
  rw [hd] at hz
  have hho : Holds encL w2 g 0 d' := SW.holds ⟨n, os, hw⟩ hblk hH (by rw [hz, hd])
  refine ⟨he, d'.toList.map (·.1), by simp [hz], ?_, ?_, ?_⟩
  · intro j hj
    have hj' : j < d'.size := by simpa using hj
    have := hho j hj'
    have e1 : ((d'.toList.map (·.1)).toArray)[j]! = (d'[j]!).1 := by
      rw [getElem!_pos _ j hj, getElem!_pos d' j hj']; simp
    rw [e1]
    exact this
  · unfold Lib.compact
    have hsz2 : (d'.toList.map (·.1)).toArray.size = (d'.toList.map (·.1)).length := by simp
    rw [← hsz2]
    refine compact_sorted' _ _ ?_ ?_
    · intro x
      have hpm : d'.toList.Perm (ss.map toLS) := by
        have e1 : (ss.map toLS).toArray.extract 0 ss.length = (ss.map toLS).toArray := by rw [← hd, Array.extract_size]
        have e2 : d'.extract 0 ss.length = d' := by rw [← hz, Array.extract_size]
        rw [e1, e2] at hperm
        exact hperm
      show x ∈ d'.toList.map (·.1) ↔ _
      rw [List.mem_map, List.mem_map]
      constructor
      · rintro ⟨y, hy, rfl⟩
        obtain ⟨s, hs1, rfl⟩ := List.mem_map.1 (hpm.mem_iff.1 hy)
        exact ⟨s, hs1, ((toLS_val (hsz s hs1)).1).symm⟩
      · rintro ⟨s, hs1, rfl⟩
        exact ⟨toLS s, hpm.mem_iff.2 (List.mem_map.2 ⟨s, hs1, rfl⟩), (toLS_val (hsz s hs1)).1⟩
    · intro i j hij hj
      have hj' : j < d'.size := by simpa using hj
      have := hs i j (Nat.zero_le _) hij (by rw [← hz]; exact hj')
      unfold ltOf cfL at this
      rw [decide_eq_false_iff_not] at this
      have e1 : ∀ k, k < d'.size → ((d'.toList.map (·.1)).toArray)[k]! = (d'[k]!).1 := by
        intro k hk
        rw [getElem!_pos _ k (by simpa using hk), getElem!_pos d' k hk]; simp
      rw [e1 i (by omega), e1 j hj']
      have := natC_po.anti (d'[i]!).1 (d'[j]!).1
      omega
  · rw [hw]
    exact hb.trans (below_sort w1 g 0 n d' os hg hb.size)

open Go.Sort Go.Lib in
set_option maxRecDepth 100000 in
set_option maxHeartbeats 1600000 in
theorem sorted_any (v : Value) (ss : List ByteArray) (hl : ss.length ≤ 1000000) (hsz : ∀ s ∈ ss, s.size ≤ 9223372036854775807) (w : World) (h : StrsAt w v ss) : Calls Tryz.prog 39 #[v] w (SortPost (ss.map (·.data.toList)) w) := by
  go_enter Tryz.func39, Tryz.ntmps39
  by_cases h0 : ss = []
  · subst h0
    obtain ⟨ao, cap, rfl⟩ : ∃ ao cap, v = .slice ao 0 cap := h.form
    clear h
    have fin : ∀ (a1 : Option Addr) (w1 : World), RowKit.Below w.heap.size w w1 → SortPost [] w (.returned (.slice a1 0 0)) w1 := fun a1 w1 hb => ⟨_, [], rfl, .inl ⟨_, _, rfl, rfl⟩, rfl, hb⟩
    have CL : Hid (Calls Tryz.prog 58 #[.slice ao 0 cap] w fun e w' => ∃ a1 c1, e = .returned (.slice a1 0 c1) ∧ RowKit.Below w.heap.size w w') := by
      cases ao with
      | none => exact (Tryz.slices_Clone_string_nil 0 cap w).mono (by rintro e w' ⟨rfl, rfl⟩; exact ⟨_, _, rfl, Below.refl _ _⟩)
      | some a => exact (Tryz.slices_Clone_string_zero a cap w).mono (by
          rintro e w' ⟨v', rfl, hr, _, hb⟩
          obtain ⟨a1, c1, rfl⟩ := ownsRow_form hr
          exact ⟨_, _, rfl, hb⟩)
    go_wp2_with fail
    refine CL.out.mono ?_
    rintro e w1 ⟨a1, c1, rfl, hb⟩
    have HB := Lib.hid hb
    clear hb
    have SF := fun W => Lib.hid (AnyF.slices_SortFunc_none (P := Tryz.prog) (ρ := Tryz.laysSlF6_f59_ren) { Tryz.laysSlF6_f59 with } a1 c1 (.func (.func 44) #[] #[]) W)
    go_wp2_with fail
    refine (SF w1).out.mono ?_
    rintro e w2 ⟨rfl, rfl⟩
    go_wp2_with fail
    refine (Tryz.slices_Compact_string_empty a1 c1 w2).mono ?_
    rintro e w3 ⟨rfl, rfl⟩
    go_wp2_with fail
    refine (clip_any a1 0 c1 (Nat.zero_le _) w3).mono ?_
    rintro e w4 ⟨rfl, rfl⟩
    go_wp2_with fail
    go_ret
    exact fin a1 _ HB.out
  · have hpos : 0 < ss.length := List.length_pos_iff.2 h0
    obtain ⟨b, off, cap, rfl, hbl, hcap, hcells⟩ : ∃ b off cap, v = .slice (some ⟨b, off, none⟩) ss.length cap ∧ b < w.heap.size ∧ ss.length ≤ cap ∧ ∀ i, i < ss.length → w.cell? ⟨b, off + i, none⟩ = some (.string (ss.getD i ByteArray.empty)) := by
      rcases h with ⟨_, _, _, h1⟩ | h
      · exact absurd h1 h0
      · exact h
    have CL : Hid (Calls Tryz.prog 58 #[.slice (some ⟨b, off, none⟩) ss.length cap] w fun e w' => ∃ g c1 cur, e = .returned (.slice (some ⟨g, 0, none⟩) ss.length c1) ∧ w.heap.size ≤ g ∧ w'.heap[g]? = some (.cells cur 9 (0, 0)) ∧ ss.length ≤ c1 ∧ cur.toList.take ss.length = ss.map Value.string ∧ RowKit.Below w.heap.size w w') :=
      (Tryz.slices_Clone_string b off ss.length cap ss w (Nat.le_refl _) (by omega) hcells).mono (by
        rintro e w' ⟨v', rfl, hr, hn, hb⟩
        rcases hr.2 with ⟨rfl, h1⟩ | ⟨g, c1, cur, rfl, hg, hh, hc, _, _, ht⟩
        · exact absurd rfl hn
        · exact ⟨g, c1, cur, rfl, hg, hh, hc, by rw [Nat.mul_one, List.take_length] at ht; exact ht, hb⟩)
    have HSZ := Lib.hid hsz
    clear h hcells hsz h0
    go_wp2_with fail
    refine CL.out.mono ?_
    rintro e w1 ⟨g, c1, cur, rfl, hg, hh, hc1, hcur, hb⟩
    have SR := Lib.hid (sorted_row w w1 g c1 ss cur hl HSZ.out hg hh hcur hb)
    clear hh hcur hb
    go_wp2_with fail
    refine SR.out.mono ?_
    rintro e w2 ⟨rfl, zs, hzl, hH, hcp, hb2⟩
    have CP := Tryz.slices_Compact_string g 0 c1 zs w2 hH (by omega) (by omega)
    rw [hzl, hcp] at CP
    have CP := Lib.hid CP
    have hlc : (sortF (ss.map (·.data.toList))).length ≤ ss.length := by
      rw [← hcp, ← hzl]; exact Lib.compact_length_le zs
    have FIN : Hid (∀ q, SortPost (ss.map (fun s : ByteArray => s.data.toList)) w (.returned (.slice (some ⟨g, 0, none⟩) (sortF (ss.map (fun s : ByteArray => s.data.toList))).length (sortF (ss.map (fun s : ByteArray => s.data.toList))).length)) (putRow encStr (Sort.ahead w2 q) g 0 (sortF (ss.map (fun s : ByteArray => s.data.toList)) ++ List.replicate (ss.length - (sortF (ss.map (fun s : ByteArray => s.data.toList))).length) []).toArray)) := by
      intro q
      generalize hL : sortF (ss.map (·.data.toList)) = L at *
      have hgs : g < (putRow encStr (Sort.ahead w2 q) g 0 (L ++ List.replicate (ss.length - L.length) []).toArray).heap.size := by
        rw [size_putRow]
        obtain ⟨cc, _, _, h9, _⟩ := cells_of_cell? (hH 0 (by simp; omega)).1
        exact (Array.getElem?_eq_some_iff.1 h9).1
      refine ⟨_, L.map (fun l => ⟨l.toArray⟩), rfl, .inr ⟨g, 0, L.length, by simp, hgs, by simp, fun i hi => ?_⟩, by simp [Function.comp_def]; exact hL.symm, hb2.trans ((below_ahd w2 q).trans (below_putRow encStr _ g 0 _ hg))⟩
      have hi' : i < L.length := by simpa using hi
      have hj : i < (L ++ List.replicate (ss.length - L.length) []).toArray.size := by simp; omega
      rw [cell?_putRow encStr (Sort.ahead w2 q) g 0 zs.toArray _ (holds_ahead encStr w2 q g 0 _ hH) (by simp; omega) i hj, getElem!_pos _ i hj]
      have e1 : (L ++ List.replicate (ss.length - L.length) []).toArray[i] = L[i] := by
        rw [List.getElem_toArray, List.getElem_append_left hi']
      rw [e1, List.getD, List.getElem?_map, List.getElem?_eq_getElem hi']
      rfl
    clear hH hcp hb2 hzl
    generalize (sortF (ss.map (·.data.toList))).length = k at *
    go_wp2_with fail
    refine CP.out.mono ?_
    rintro e w3 ⟨rfl, q, rfl⟩
    have FI := Lib.hid (FIN.out q)
    clear FIN CP
    generalize putRow encStr (Sort.ahead w2 q) g 0 _ = w3 at *
    go_wp2_with fail
    refine (clip_any (some ⟨g, 0, none⟩) k c1 (by omega) w3).mono ?_
    rintro e w4 ⟨rfl, rfl⟩
    go_wp2_with fail
    go_ret
    exact FI.out
end Go.Proofs.YtngbjnjkcniabaaGreatDoor
