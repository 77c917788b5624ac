/- The walks over Above, Below and Order of package graph. -/
import Derived.Test.YtfegmmafcopbpaaGreatDoorGw7
import Derived.Deep.RegionHeldLaw
namespace Go.Proofs.YtfegmmafcopbpaaGreatDoor
open Go.RowKit

/-- a list of strings has been returned -/
def StrPost (l : List Bs) (w : World) (e : Ending) (w' : World) : Prop := ∃ r ss, e = .returned r ∧ StrsAt w' r ss ∧ ss.map (·.data.toList) = l ∧ Below w.heap.size w w'

set_option maxRecDepth 100000 in
set_option maxHeartbeats 1600000 in
theorem above_any (nv : Value) (ns : List Nd) (b : ByteArray) (m : Int) (hlen : 40 * ns.length ≤ 281474976710656) (w : World) (hN : NdAt w nv ns) (hm : w.cell? ⟨0, 0, none⟩ = some (.int .i64 m)) (hml : 0 < w.heap.size) :
    Calls Tryz.prog 21 #[nv, .string b] w (StrPost (aboveF (grO ns) b.data.toList) w) := by
  have CK := Lib.hid (check_any nv ns m hlen w hN hm hml)
  have HNL := Lib.hid (grO_len ns)
  clear hN hm
  go_enter Tryz.func21, Tryz.ntmps21
  go_wp2_with fail
  refine CK.out.mono ?_
  rintro e w1 ⟨p, rfl, hb, h0, h1⟩
  have HB := Lib.hid hb
  clear hb CK
  by_cases hf : formedF (grO ns) = 0
  · obtain ⟨g, rfl, hnet⟩ := h0 hf
    have hS := formed_sound hf
    have hnt := hnet
    obtain ⟨bm, av, bv, hg, _, _, hA, _⟩ := hnt
    have RE := Lib.hid (reached_any g nv av ns (ab (grO ns)) b w1 hnet hS (by have := ab_in hS; rwa [grO_len] at this) (ab_len hS) hA)
    have hg2 : w1.cell? ⟨g, 2, none⟩ = some av := by rw [cell_of_blk hg]; rfl
    have HF : Hid (aboveF (grO ns) b.data.toList = reachF (grO ns) (ab (grO ns)) b.data.toList) := by unfold Hid aboveF; rw [if_neg (by simp [hf])]
    rw [hf]
    clear h0 h1 hf hnet hg hA hS
    go_wp2_with fail
    refine RE.out.mono ?_
    rintro e w2 ⟨r, ss, rfl, hr1, hr2, hb2⟩
    have HP : Hid (StrPost (aboveF (grO ns) b.data.toList) w (.returned r) w2) := ⟨r, ss, rfl, hr1, by rw [hr2, HF.out], HB.out.trans (hb2.mono HB.out.size)⟩
    clear hr1 hr2 hb2 RE
    go_wp2_with fail
    go_ret
    exact HP.out
  · have hp := h1 hf
    subst hp
    have HV : Hid (aboveF (grO ns) b.data.toList = []) := by unfold Hid aboveF; rw [if_pos hf]
    clear h0 h1
    generalize formedF (grO ns) = fe at *
    have hfi : ((fe : Int) != 0) = true := by simp; exact hf
    go_wp2_with fail
    go_ret
    exact ⟨_, [], rfl, .inl ⟨_, _, rfl, rfl⟩, by rw [HV.out]; rfl, HB.out⟩

set_option maxRecDepth 100000 in
set_option maxHeartbeats 1600000 in
theorem below_any (nv : Value) (ns : List Nd) (b : ByteArray) (m : Int) (hlen : 40 * ns.length ≤ 281474976710656) (w : World) (hN : NdAt w nv ns) (hm : w.cell? ⟨0, 0, none⟩ = some (.int .i64 m)) (hml : 0 < w.heap.size) :
    Calls Tryz.prog 23 #[nv, .string b] w (StrPost (belowF (grO ns) b.data.toList) w) := by
  have CK := Lib.hid (check_any nv ns m hlen w hN hm hml)
  have HNL := Lib.hid (grO_len ns)
  clear hN hm
  go_enter Tryz.func23, Tryz.ntmps23
  go_wp2_with fail
  refine CK.out.mono ?_
  rintro e w1 ⟨p, rfl, hb, h0, h1⟩
  have HB := Lib.hid hb
  clear hb CK
  by_cases hf : formedF (grO ns) = 0
  · obtain ⟨g, rfl, hnet⟩ := h0 hf
    have hS := formed_sound hf
    have hnt := hnet
    obtain ⟨bm, av, bv, hg, _, _, _, hA⟩ := hnt
    have RE := Lib.hid (reached_any g nv bv ns (be (grO ns)) b w1 hnet hS (by have := be_in (grO ns); rwa [grO_len] at this) (be_len hS) hA)
    have hg2 : w1.cell? ⟨g, 3, none⟩ = some bv := by rw [cell_of_blk hg]; rfl
    have HF : Hid (belowF (grO ns) b.data.toList = reachF (grO ns) (be (grO ns)) b.data.toList) := by unfold Hid belowF; rw [if_neg (by simp [hf])]
    rw [hf]
    clear h0 h1 hf hnet hg hA hS
    go_wp2_with fail
    refine RE.out.mono ?_
    rintro e w2 ⟨r, ss, rfl, hr1, hr2, hb2⟩
    have HP : Hid (StrPost (belowF (grO ns) b.data.toList) w (.returned r) w2) := ⟨r, ss, rfl, hr1, by rw [hr2, HF.out], HB.out.trans (hb2.mono HB.out.size)⟩
    clear hr1 hr2 hb2 RE
    go_wp2_with fail
    go_ret
    exact HP.out
  · have hp := h1 hf
    subst hp
    have HV : Hid (belowF (grO ns) b.data.toList = []) := by unfold Hid belowF; rw [if_pos hf]
    clear h0 h1
    generalize formedF (grO ns) = fe at *
    have hfi : ((fe : Int) != 0) = true := by simp; exact hf
    go_wp2_with fail
    go_ret
    exact ⟨_, [], rfl, .inl ⟨_, _, rfl, rfl⟩, by rw [HV.out]; rfl, HB.out⟩

/-- a copy of a list of strings -/
theorem clone_any (v : Value) (ss : List ByteArray) (hl : ss.length ≤ 1000000) (w : World) (h : StrsAt w v ss) : Calls Tryz.prog 36 #[v] w fun e w' => ∃ r, e = .returned r ∧ w'.ownsRow w.heap.size 9 1 r ss.length (ss.map Value.string) ∧ Below w.heap.size w w' := by
  rcases h with ⟨ao, cap, rfl, rfl⟩ | ⟨b, off, cap, rfl, hbl, hcap, hcells⟩
  · cases ao with
    | none => exact (Tryz.slices_Clone_string_nil 0 cap w).mono (by rintro e w' ⟨rfl, rfl⟩; exact ⟨_, rfl, World.ownsRow_nil _ _ _ _, Below.refl _ _⟩)
    | some a => exact (Tryz.slices_Clone_string_zero a cap w).mono (by
        rintro e w' ⟨v', rfl, hr, _, hb⟩
        exact ⟨v', rfl, hr, hb⟩)
  · exact (Tryz.slices_Clone_string b off ss.length cap ss w (Nat.le_refl _) (by omega) hcells).mono (by
      rintro e w' ⟨v', rfl, hr, hn, hb⟩
      rw [List.take_length] at hr
      exact ⟨v', rfl, hr, hb⟩)

theorem Tryz.info48 : (Tryz.prog.info? 48).map (fun i => (i.zero, i.size, i.bytes)) = some (some (.agg #[.string ByteArray.empty, .slice none 0 0]), 2, 40) := by kernel_rfl
theorem Tryz.info48' : ∃ i, Tryz.prog.info? 48 = some i ∧ i.zero = some (.agg #[.string ByteArray.empty, .slice none 0 0]) ∧ i.size = 2 ∧ i.bytes = 40 := info_parts Tryz.info48

def OrderPost (G : Gr) (w : World) (e : Ending) (w' : World) : Prop :=
  ∃ r os, e = .returned (.tuple #[r, .int .i64 (validF G : Nat)]) ∧ NdAt w' r os ∧ (validF G = 0 → grO os = orderF G) ∧ (validF G ≠ 0 → os = []) ∧ Below w.heap.size w w'

def OrdRel (w1 : World) (G : Gr) (L : List Nat) (f : Nat) (t23 t7 : Value) (wr : World) : Prop :=
  ∃ (k : Nat) (os : List Nd), t23 = .int .i64 (k : Nat) ∧ k ≤ L.length ∧ f = L.length - k ∧ os.length = k ∧ grO os = (L.take k).map (fun i => (idA G i, needA G i)) ∧
    wr.ownsRow w1.heap.size 48 2 t7 os.length (os.flatMap Nd.cells) ∧ (∀ x ∈ os, wr.ownsRow w1.heap.size 9 1 x.nv x.needs.length (x.needs.map Value.string) ∧ ∀ k, x.nv.ownBlock = some k → t7.ownBlock ≠ some k) ∧ Below w1.heap.size w1 wr

theorem nd_len (x : Nd) : x.cells.length = 2 := rfl
end Go.Proofs.YtfegmmafcopbpaaGreatDoor
