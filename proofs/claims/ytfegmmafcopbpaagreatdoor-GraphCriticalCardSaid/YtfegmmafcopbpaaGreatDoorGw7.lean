/- The walks over reached, Valid, Above and Below of package graph. -/
import Derived.Test.YtfegmmafcopbpaaGreatDoorGw3
import Derived.Test.YtfegmmafcopbpaaGreatDoorGw6
import Derived.Test.YtfegmmafcopbpaaGreatDoorGr
namespace Go.Proofs.YtfegmmafcopbpaaGreatDoor
open Go.RowKit


set_option maxRecDepth 100000 in
set_option maxHeartbeats 1600000 in
theorem valid_any (nv : Value) (ns : List Nd) (m : Int) (hlen : 40 * ns.length ≤ 281474976710656) (w : World) (hN : NdAt w nv ns) (hm : w.cell? ⟨0, 0, none⟩ = some (.int .i64 m)) (hml : 0 < w.heap.size) :
    Calls Tryz.prog 16 #[nv] w fun e w' => e = .returned (.int .i64 (validF (grO ns) : Nat)) ∧ Below w.heap.size w w' := by
  have CK := Lib.hid (check_any nv ns m hlen w hN hm hml)
  obtain ⟨nao, ncap, rfl⟩ := hN.sl.form
  have HNL := Lib.hid (grO_len ns)
  clear hN hm
  go_enter Tryz.func16, Tryz.ntmps16
  go_wp2_with fail
  refine CK.out.mono ?_
  rintro e w1 ⟨p, rfl, hb, h0, h1⟩
  have HB := Lib.hid hb
  clear hb CK
  by_cases hf : formedF (grO ns) = 0
  · obtain ⟨g, rfl, hnet⟩ := h0 hf
    have OR := Lib.hid (order_any g _ ns w1 hnet (formed_sound hf))
    have HV : Hid (validF (grO ns) = if (ordG (grO ns)).length < (grO ns).length then 14 else 0) := by unfold Hid validF; rw [if_neg (by simp [hf])]
    rw [hf]
    clear h0 h1 hf hnet
    go_wp2_with fail
    refine OR.out.mono ?_
    rintro e w2 ⟨v, rfl, ho, hb2⟩
    obtain ⟨ao, cap, rfl⟩ := ho.form
    have HB2 := Lib.hid (HB.out.trans (hb2.mono HB.out.size))
    have HV2 : Hid (validF (grO ns) = if (ordG (grO ns)).length < ns.length then 14 else 0) := by unfold Hid; rw [HV.out, HNL.out]
    clear ho hb2 OR HV
    generalize (ordG (grO ns)).length = k at *
    by_cases hk : k < ns.length
    · have hki : (k : Int) < (ns.length : Int) := by omega
      have HE : Hid (validF (grO ns) = 14) := by unfold Hid; rw [HV2.out, if_pos hk]
      go_wp2_with fail
      go_ret
      exact ⟨by rw [HE.out]; rfl, HB2.out⟩
    · have HE : Hid (validF (grO ns) = 0) := by unfold Hid; rw [HV2.out, if_neg hk]
      have hki : decide (k < ns.length) = false := by simp; omega
      clear hk
      go_wp2_with fail
      go_ret
      exact ⟨by rw [HE.out]; rfl, HB2.out⟩
  · have hp := h1 hf
    subst hp
    have HV : Hid (validF (grO ns) = formedF (grO ns)) := by unfold Hid validF; rw [if_pos hf]
    clear h0 h1
    generalize formedF (grO ns) = fe at *
    have hfi : ((fe : Int) != 0) = true := by simp; exact hf
    go_wp2_with fail
    go_ret
    exact ⟨by rw [HV.out]; rfl, HB.out⟩


def ReaRel (w1 : World) (ns : List Nd) (D : Nat → Nat) (f : Nat) (t27 t9 : Value) (wr : World) : Prop :=
  ∃ k : Nat, t27 = .int .i64 (k : Nat) ∧ k ≤ ns.length ∧ f = ns.length - k ∧ Below w1.heap.size w1 wr ∧
    wr.ownsRow w1.heap.size 9 1 t9 (((List.range k).filter fun j => decide (0 < D j)).map fun j => (ns.getD j default).id).length ((((List.range k).filter fun j => decide (0 < D j)).map fun j => (ns.getD j default).id).map Value.string)

theorem hit_succ (ns : List Nd) (D : Nat → Nat) (k : Nat) : (((List.range (k + 1)).filter fun j => decide (0 < D j)).map fun j => (ns.getD j default).id) = (((List.range k).filter fun j => decide (0 < D j)).map fun j => (ns.getD j default).id) ++ if 0 < D k then [(ns.getD k default).id] else [] := by
  rw [List.range_succ, List.filter_append, List.map_append]
  congr 1
  by_cases h : 0 < D k
  · rw [if_pos h]; simp only [List.filter_cons, h, decide_true, if_true, List.filter_nil, List.map_cons, List.map_nil]
  · rw [if_neg h]; simp only [List.filter_cons, h, decide_false, Bool.false_eq_true, if_false, List.filter_nil, List.map_nil]
theorem hit_len (ns : List Nd) (D : Nat → Nat) (k : Nat) : (((List.range k).filter fun j => decide (0 < D j)).map fun j => (ns.getD j default).id).length ≤ k := by
  rw [List.length_map]
  have := List.length_filter_le (fun j => decide (0 < D j)) (List.range k)
  rwa [List.length_range] at this
theorem hit_datas (ns : List Nd) (next : Nat → List Nat) (a : Nat) : (((List.range ns.length).filter fun j => decide (0 < distF next ns.length a j)).map fun j => (ns.getD j default).id).map (·.data.toList) = hitF (grO ns) next a := by
  unfold hitF
  rw [grO_len, List.map_map]
  apply List.map_congr_left
  intro j hj
  have hj' : j < ns.length := by
    rw [List.mem_filter, List.mem_range] at hj
    exact hj.1
  exact (grO_id ns hj').symm

set_option maxRecDepth 100000 in
set_option maxHeartbeats 1600000 in
theorem reached_any (g : Nat) (nv v : Value) (ns : List Nd) (next : Nat → List Nat) (b : ByteArray) (w : World) (hnet : NetAt w g nv ns) (hS : Sound (grO ns)) (hn : ∀ i, ∀ k ∈ next i, k < ns.length) (hdeg : ∀ i, (next i).length ≤ 1024) (hM : MatAt w v ns.length next) :
    Calls Tryz.prog 47 #[.pointer (some ⟨g, 0, none⟩), .string b, v] w fun e w' => ∃ r ss, e = .returned r ∧ StrsAt w' r ss ∧ ss.map (·.data.toList) = reachF (grO ns) next b.data.toList ∧ Below w.heap.size w w' := by
  obtain ⟨bm, av, bv, hg, hN, hmap, _, _⟩ := hnet
  obtain ⟨nao, ncap, rfl⟩ := hN.sl.form
  have hgl := (Array.getElem?_eq_some_iff.1 hg).1
  have hlen := hS.len
  rw [grO_len] at hlen
  have HSZ := Lib.hid (sizes_of hS)
  have HW : Hid (∀ W, Below w.heap.size w W → W.cell? ⟨g, 0, none⟩ = some (.slice nao ns.length ncap) ∧ NdAt W (.slice nao ns.length ncap) ns) := fun W hW => by
    have hgb := (hW.block g hgl).trans hg
    exact ⟨by rw [cell_of_blk hgb]; rfl, hN.below hW⟩
  have hg1 : w.cell? ⟨g, 1, none⟩ = some (.map (some bm)) := by rw [cell_of_blk hg]; rfl
  have LK := MapF.lookup (P := Tryz.prog) hmap Tryz.underlying66 Tryz.underlying9 (z := .int .i64 0) (by kernel_rfl) (a := b) trivial true
  have DI := fun (x : Nat) (hx : x < ns.length) => Lib.hid (distances_any v ns.length x next hn hdeg hlen hx w hM)
  obtain ⟨i9, hi9⟩ := Tryz.info9'
  have HI := Lib.hid hi9
  have HNL := Lib.hid (grO_len ns)
  have HDT := Lib.hid (hit_datas ns next)
  clear hg hN hmap hi9 hM
  go_enter Tryz.func47, Tryz.ntmps47
  by_cases hin : b.data.toList ∈ idsG (grO ns)
  · have hlk : idxF (grO ns) b = some (intV (posG (grO ns) b.data.toList)) := by unfold idxF; rw [if_pos hin]
    rw [hlk] at LK
    simp only [Option.getD_some, Option.isSome_some, if_true] at LK
    have HRF : Hid (reachF (grO ns) next b.data.toList = sortF (hitF (grO ns) next (posG (grO ns) b.data.toList))) := by unfold Hid reachF; rw [if_pos hin]
    have hp := posG_lt hin
    rw [HNL.out] at hp
    have DX := DI _ hp
    clear hlk hin DI
    generalize posG (grO ns) b.data.toList = x at *
    go_wp2_with fail
    refine DX.out.mono ?_
    rintro e w1 ⟨db, rfl, hdb, hrow, hb1⟩
    have HB1 := Lib.hid hb1
    have HROW := Lib.hid hrow
    have HDX := Lib.hid (HDT.out x)
    clear hb1 hrow DX LK HDT hg1
    generalize distF next ns.length x = D at *
    have hs1 := HB1.out.size
    go_wp2_with fail
    go_loopg [27, 9] ns.length (ReaRel w1 ns D)
    case atStart => exact ⟨0, rfl, Nat.zero_le _, rfl, Below.refl _ _, World.ownsRow_nil _ _ _ _⟩
    case round =>
      obtain ⟨k, rfl, hk, rfl, hb, hr⟩ := hrel
      obtain ⟨ao, cap, rfl⟩ := ownsRow_form hr
      have HB := Lib.hid hb
      have HR := Lib.hid hr
      have hhl := hit_len ns D k
      clear hb hr
      by_cases hlt : k < ns.length
      · have hki : (k : Int) < (ns.length : Int) := by omega
        have HBW := Lib.hid (HB1.out.trans (HB.out.mono hs1))
        obtain ⟨hg0, hN⟩ := HW.out wr HBW.out
        obtain ⟨nb, noff, rfl, hnb, hc0, _, _⟩ := hN.at2 hlt
        have hcd : wr.cell? ⟨db, k, none⟩ = some (intV (D k)) := (HROW.out.of_block (HB.out.block _ HROW.out.lt)).cell hlt
        have HSC := Lib.hid (hit_succ ns D k)
        clear hN
        generalize (ns.getD k default).id = y at *
        generalize ((List.range k).filter fun j => decide (0 < D j)).map (fun j => (ns.getD j default).id) = ss at *
        by_cases hd : 0 < D k
        · have hdi : (0 : Int) < (D k : Int) := by omega
          have HS2 : Hid ((((List.range (k + 1)).filter fun j => decide (0 < D j)).map fun j => (ns.getD j default).id) = ss ++ [y]) := by unfold Hid; rw [HSC.out, if_pos hd]
          clear HSC hd
          go_wp2_with (at_builtin; refine wpList_append2 rfl _ _ 35 rfl w1.heap.size 9 i9 (.string ByteArray.empty) 1 16 Tryz.underlying35 HI.out rfl (by decide) _ _ _ rfl (HR.out.alloc _) ⟨wr.heap.size, 0, none⟩ 1 1 [.string y] rfl rfl (cells_newAt rfl _ 9 (0, 0)) rfl (by unfold maxLen; omega) (by omega) (by have := HB.out.size; simp; omega) ?_)
          intro v' w2 hown hgrow hwh
          obtain ⟨ao', cap', rfl⟩ := ownsRow_form hown
          have HOWN := Lib.hid hown
          have HBG := Lib.hid ((HB.out.alloc HB.out.size _).grown hgrow (by have := HB.out.size; simp; omega) (fun j hj => (HR.out.lt j hj).1))
          clear hown hgrow hwh
          go_wp2_with fail
          go_roundg (ns.length - (k + 1))
          case measure => omega
          case rel =>
            refine ⟨k + 1, by go_num, by omega, rfl, HBG.out, ?_⟩
            rw [HS2.out]
            have := HOWN.out
            simpa using this
        · have hdi : decide (0 < D k) = false := by simp; omega
          have HS2 : Hid ((((List.range (k + 1)).filter fun j => decide (0 < D j)).map fun j => (ns.getD j default).id) = ss) := by unfold Hid; rw [HSC.out, if_neg hd, List.append_nil]
          clear HSC hd
          go_wp2_with fail
          go_roundg (ns.length - (k + 1))
          case measure => omega
          case rel => exact ⟨k + 1, by go_num, by omega, rfl, HB.out, by rw [HS2.out]; exact HR.out⟩
      · have hke : k = ns.length := by omega
        subst hke
        have HM : Hid (∀ s ∈ ((List.range ns.length).filter fun j => decide (0 < D j)).map (fun j => (ns.getD j default).id), s.size ≤ 9223372036854775807) := fun s hs => by
          obtain ⟨j, hj, rfl⟩ := List.mem_map.1 hs
          rw [List.mem_filter, List.mem_range] at hj
          exact HSZ.out _ (by rw [List.getD, List.getElem?_eq_getElem hj.1]; exact List.getElem_mem hj.1)
        generalize ((List.range ns.length).filter fun j => decide (0 < D j)).map (fun j => (ns.getD j default).id) = ss at *
        have SO := Lib.hid (sorted_any _ ss (by omega) HM.out wr (StrsAt.of_row HR.out))
        go_wp2_with fail
        refine SO.out.mono ?_
        rintro e w3 ⟨r, rs, rfl, hr1, hr2, hb3⟩
        have HBF := Lib.hid ((HB1.out.trans (HB.out.mono hs1)).trans (hb3.mono (Nat.le_trans hs1 HB.out.size)))
        have HR1 := Lib.hid hr1
        have HR2 : Hid (rs.map (·.data.toList) = reachF (grO ns) next b.data.toList) := by unfold Hid; rw [hr2, HRF.out, ← HDX.out]
        clear hr1 hr2 hb3 SO
        go_wp2_with fail
        go_ret
        exact ⟨_, rs, rfl, HR1.out, HR2.out, HBF.out⟩
  · have hlk : idxF (grO ns) b = none := by unfold idxF; rw [if_neg hin]
    rw [hlk] at LK
    simp only [Option.getD_none, Option.isSome_none, if_true] at LK
    have HRF : Hid (reachF (grO ns) next b.data.toList = []) := by unfold Hid reachF; rw [if_neg hin]
    clear hlk hin DI
    go_wp2_with fail
    go_ret
    exact ⟨_, [], rfl, .inl ⟨_, _, rfl, rfl⟩, by rw [HRF.out]; rfl, Below.refl _ _⟩
end Go.Proofs.YtfegmmafcopbpaaGreatDoor
