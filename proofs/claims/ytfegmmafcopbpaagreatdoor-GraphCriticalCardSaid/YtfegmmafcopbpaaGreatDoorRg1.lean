/- The walks over the reference's searches: Find, Has, within, Same. -/
import Derived.Test.YtfegmmafcopbpaaGreatDoorGm1
namespace Go.Proofs.YtfegmmafcopbpaaGreatDoor
open Go.RowKit

theorem tl_eqR (x y : ByteArray) : (x.toList == y.toList) = decide (x.data.toList = y.data.toList) := by
  rw [Lib.toList_data, Lib.toList_data, Bool.eq_iff_iff, beq_iff_eq, decide_eq_true_eq]
abbrev dts (ss : List ByteArray) : List Bs := ss.map (·.data.toList)
theorem data_inj {x y : ByteArray} (h : x.data.toList = y.data.toList) : x = y := by
  rw [← Lib.mk_data x, h, Lib.mk_data]
theorem dts_at (ss : List ByteArray) {k : Nat} (hk : k < ss.length) : (dts ss)[k]? = some (ss.getD k ByteArray.empty).data.toList := by
  rw [List.getElem?_map, List.getElem?_eq_getElem hk, List.getD, List.getElem?_eq_getElem hk]; rfl

/-- the index of a name, or -1 -/
def findF (l : List Bs) (b : Bs) : Int := if b ∈ l then (l.idxOf b : Nat) else -1
theorem take_mem_succ {l : List Bs} {k : Nat} {c : Bs} (h : l[k]? = some c) (b : Bs) : b ∈ l.take (k + 1) ↔ b ∈ l.take k ∨ b = c := by
  rw [List.take_add_one, h]; simp
theorem find_hit {l : List Bs} {k : Nat} {b : Bs} (h : l[k]? = some b) (hn : b ∉ l.take k) : findF l b = k := by
  obtain ⟨hk, e⟩ := List.getElem?_eq_some_iff.1 h
  have h1 : l = l.take k ++ b :: l.drop (k + 1) := by
    conv => lhs; rw [← List.take_append_drop k l, List.drop_eq_getElem_cons hk, e]
  unfold findF
  rw [if_pos (e ▸ List.getElem_mem hk)]
  congr 1
  rw [h1, List.idxOf_append, if_neg hn, List.idxOf_cons_self, List.length_take]
  omega
theorem find_miss {l : List Bs} {b : Bs} (hn : b ∉ l) : findF l b = -1 := by unfold findF; rw [if_neg hn]
theorem grO_ids (ns : List Nd) {k : Nat} (hk : k < ns.length) : (idsG (grO ns))[k]? = some (ns.getD k default).id.data.toList := by
  unfold idsG grO
  rw [List.getElem?_map, List.getElem?_map, List.getElem?_eq_getElem hk, List.getD, List.getElem?_eq_getElem hk]; rfl
theorem ids_length (ns : List Nd) : (idsG (grO ns)).length = ns.length := by simp [idsG, grO]

def SeekRel (w1 : World) (l : List Bs) (b : Bs) (f : Nat) (t5 : Value) (wr : World) : Prop :=
  ∃ k : Nat, t5 = .int .i64 (k : Nat) ∧ k ≤ l.length ∧ f = l.length - k ∧ b ∉ l.take k ∧ wr = w1

set_option maxRecDepth 100000 in
set_option maxHeartbeats 1600000 in
theorem find_any (nv : Value) (ns : List Nd) (s : ByteArray) (hl : ns.length ≤ 9223372036854775807) (w : World) (h : NdAt w nv ns) : Calls Tryz.prog 31 #[nv, .string s] w fun e w' => e = .returned (.int .i64 (findF (idsG (grO ns)) s.data.toList)) ∧ w' = w := by
  obtain ⟨ao, cap, rfl⟩ := h.sl.form
  have H := Lib.hid h
  have HL := Lib.hid (ids_length ns)
  clear h
  go_enter Tryz.func31, Tryz.ntmps31
  go_wp2_with fail
  go_loopg [5] ns.length (SeekRel w (idsG (grO ns)) s.data.toList)
  case atStart => exact ⟨0, rfl, Nat.zero_le _, by rw [HL.out]; rfl, by simp, rfl⟩
  case round =>
    obtain ⟨k, rfl, hk, hff, hno, rfl⟩ := hrel
    rw [HL.out] at hk hff
    subst hff
    have HNO := Lib.hid hno
    clear hno
    by_cases hlt : k < ns.length
    · obtain ⟨b, off, rfl, hbl, hc, _, _⟩ := H.out.at2 hlt
      have hii : (k : Int) < (ns.length : Int) := by omega
      have HI := Lib.hid (grO_ids ns hlt)
      generalize (ns.getD k default).id = x at *
      have hxy := tl_eqR x s
      by_cases he : x.data.toList = s.data.toList
      · rw [decide_eq_true he] at hxy
        have HF : Hid (findF (idsG (grO ns)) s.data.toList = (k : Nat)) := find_hit (by rw [HI.out, he]) HNO.out
        clear he
        as_aux_lemma =>
        go_wp2_with fail
        go_ret
        exact ⟨by rw [HF.out]; rfl, rfl⟩
      · rw [decide_eq_false he] at hxy
        have HF : Hid (s.data.toList ∉ (idsG (grO ns)).take (k + 1)) := fun hm => by
          rcases (take_mem_succ HI.out _).1 hm with h1 | h1
          · exact HNO.out h1
          · exact he h1.symm
        clear he
        as_aux_lemma =>
        go_wp2_with fail
        go_roundg (ns.length - (k + 1))
        case measure => omega
        case rel => exact ⟨k + 1, by go_num, by rw [HL.out]; omega, by rw [HL.out], HF.out, rfl⟩
    · have he : k = ns.length := by omega
      subst he
      have HF : Hid (findF (idsG (grO ns)) s.data.toList = -1) := find_miss (by have := HNO.out; rwa [← HL.out, List.take_length] at this)
      as_aux_lemma =>
      go_wp2_with fail
      go_ret
      exact ⟨by rw [HF.out]; rfl, rfl⟩

set_option maxRecDepth 100000 in
set_option maxHeartbeats 1600000 in
theorem has_any (v : Value) (ss : List ByteArray) (s : ByteArray) (hl : ss.length ≤ 9223372036854775807) (w : World) (h : StrsAt w v ss) : Calls Tryz.prog 32 #[v, .string s] w fun e w' => e = .returned (.bool (decide (s.data.toList ∈ dts ss))) ∧ w' = w := by
  obtain ⟨ao, cap, rfl⟩ := h.form
  have H := Lib.hid h
  have HL : Hid ((dts ss).length = ss.length) := by unfold Hid dts; rw [List.length_map]
  clear h
  go_enter Tryz.func32, Tryz.ntmps32
  go_wp2_with fail
  go_loopg [5] ss.length (SeekRel w (dts ss) s.data.toList)
  case atStart => exact ⟨0, rfl, Nat.zero_le _, by rw [HL.out]; rfl, by simp, rfl⟩
  case round =>
    obtain ⟨k, rfl, hk, hff, hno, rfl⟩ := hrel
    rw [HL.out] at hk hff
    subst hff
    have HNO := Lib.hid hno
    clear hno
    by_cases hlt : k < ss.length
    · obtain ⟨b, off, rfl, hbl, hc⟩ := H.out.at_ hlt
      have hii : (k : Int) < (ss.length : Int) := by omega
      have HI := Lib.hid (dts_at ss hlt)
      generalize ss.getD k ByteArray.empty = x at *
      have hxy := tl_eqR x s
      by_cases he : x.data.toList = s.data.toList
      · rw [decide_eq_true he] at hxy
        have HF : Hid (s.data.toList ∈ dts ss) := by
          have h1 := List.mem_of_getElem? HI.out
          rwa [he] at h1
        clear he
        as_aux_lemma =>
        go_wp2_with fail
        go_ret
        exact ⟨by rw [decide_eq_true HF.out]; rfl, rfl⟩
      · rw [decide_eq_false he] at hxy
        have HF : Hid (s.data.toList ∉ (dts ss).take (k + 1)) := fun hm => by
          rcases (take_mem_succ HI.out _).1 hm with h1 | h1
          · exact HNO.out h1
          · exact he h1.symm
        clear he
        as_aux_lemma =>
        go_wp2_with fail
        go_roundg (ss.length - (k + 1))
        case measure => omega
        case rel => exact ⟨k + 1, by go_num, by rw [HL.out]; omega, by rw [HL.out], HF.out, rfl⟩
    · have he : k = ss.length := by omega
      subst he
      have HF : Hid (s.data.toList ∉ dts ss) := by have := HNO.out; rwa [← HL.out, List.take_length] at this
      as_aux_lemma =>
      go_wp2_with fail
      go_ret
      exact ⟨by rw [decide_eq_false HF.out]; rfl, rfl⟩

def WithinRel (w1 : World) (l all : List Bs) (f : Nat) (t5 : Value) (wr : World) : Prop :=
  ∃ k : Nat, t5 = .int .i64 (k : Nat) ∧ k ≤ l.length ∧ f = l.length - k ∧ ((l.take k).all fun b => decide (b ∈ all)) = true ∧ wr = w1
set_option maxRecDepth 100000 in
set_option maxHeartbeats 1600000 in
theorem within_any (u v : Value) (ss ts : List ByteArray) (hl : ss.length ≤ 9223372036854775807) (hl2 : ts.length ≤ 9223372036854775807) (w : World) (h : StrsAt w u ss) (h2 : StrsAt w v ts) : Calls Tryz.prog 53 #[u, v] w fun e w' => e = .returned (.bool ((dts ss).all fun b => decide (b ∈ dts ts))) ∧ w' = w := by
  obtain ⟨ao, cap, rfl⟩ := h.form
  have H := Lib.hid h
  have HA := fun s => Lib.hid (has_any v ts s hl2 w h2)
  have HL : Hid ((dts ss).length = ss.length) := by unfold Hid dts; rw [List.length_map]
  clear h h2
  go_enter Tryz.func53, Tryz.ntmps53
  go_wp2_with fail
  go_loopg [5] ss.length (WithinRel w (dts ss) (dts ts))
  case atStart => exact ⟨0, rfl, Nat.zero_le _, by rw [HL.out]; rfl, by simp, rfl⟩
  case round =>
    obtain ⟨k, rfl, hk, hff, hno, rfl⟩ := hrel
    rw [HL.out] at hk hff
    subst hff
    have HNO := Lib.hid hno
    clear hno
    by_cases hlt : k < ss.length
    · obtain ⟨b, off, rfl, hbl, hc⟩ := H.out.at_ hlt
      have hii : (k : Int) < (ss.length : Int) := by omega
      have HI := Lib.hid (dts_at ss hlt)
      generalize ss.getD k ByteArray.empty = x at *
      have HAX := HA x
      have HALL : Hid ((((dts ss).take (k + 1)).all fun b => decide (b ∈ dts ts)) = decide (x.data.toList ∈ dts ts)) := by
        unfold Hid
        rw [List.take_add_one, HI.out, List.all_append, HNO.out]
        simp
      have HALF : Hid (decide (x.data.toList ∈ dts ts) = false → ((dts ss).all fun b => decide (b ∈ dts ts)) = false) := fun h0 => by
        rw [List.all_eq_false]
        exact ⟨_, List.mem_of_getElem? HI.out, by rw [h0]; simp⟩
      generalize decide (x.data.toList ∈ dts ts) = q at *
      clear HA
      cases q with
      | true =>
        as_aux_lemma =>
        go_wp2_with fail
        refine HAX.out.mono ?_
        rintro e w5 ⟨rfl, rfl⟩
        go_wp2_with fail
        go_roundg (ss.length - (k + 1))
        case measure => omega
        case rel => exact ⟨k + 1, by go_num, by rw [HL.out]; omega, by rw [HL.out], HALL.out, rfl⟩
      | false =>
        as_aux_lemma =>
        go_wp2_with fail
        refine HAX.out.mono ?_
        rintro e w5 ⟨rfl, rfl⟩
        go_wp2_with fail
        go_ret
        exact ⟨by rw [HALF.out trivial]; rfl, rfl⟩
    · have he : k = ss.length := by omega
      subst he
      have HF : Hid (((dts ss).all fun b => decide (b ∈ dts ts)) = true) := by have := HNO.out; rwa [← HL.out, List.take_length] at this
      as_aux_lemma =>
      go_wp2_with fail
      go_ret
      exact ⟨by rw [HF.out]; rfl, rfl⟩
end Go.Proofs.YtfegmmafcopbpaaGreatDoor
