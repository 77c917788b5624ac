/- The walks over the reference's order: first, order, Valid, Order. -/
import Derived.Test.YtfegmmafcopbpaaGreatDoorRg2
import Derived.Test.YtfegmmafcopbpaaGreatDoorGr
import Derived.Test.YtfegmmafcopbpaaGreatDoorNw3b
import Derived.Test.YtfegmmafcopbpaaGreatDoorGw1
import Derived.Test.YtfegmmafcopbpaaGreatDoorGw2
import Derived.Deep.AppendLies
namespace Go.Proofs.YtfegmmafcopbpaaGreatDoor
open Go.RowKit

theorem nd_lenR (x : Nd) : x.cells.length = 2 := rfl
theorem Tryz.info48R : (Tryz.prog.info? 48).map (fun i => (i.zero, i.size, i.bytes)) = some (some (.agg #[.string ByteArray.empty, .slice none 0 0]), 2, 40) := by kernel_rfl
theorem Tryz.info48R' : ∃ i, Tryz.prog.info? 48 = some i ∧ i.zero = some (.agg #[.string ByteArray.empty, .slice none 0 0]) ∧ i.size = 2 ∧ i.bytes = 40 := info_parts Tryz.info48R

def RFirRel (w1 : World) (G : Gr) (listed : List Bs) (f : Nat) (t5 t6 : Value) (wr : World) : Prop :=
  ∃ (k : Nat) (b : Option Nat), t6 = .int .i64 (k : Nat) ∧ t5 = .int .i64 (optI b) ∧ k ≤ G.length ∧ f = G.length - k ∧ bestF (idA G) b (((List.range G.length).drop k).filter (frB G listed)) = firstF (idA G) (freeN G listed) ∧ (∀ j, b = some j → j < G.length) ∧ Up w1 wr
theorem up_drewN {w w1 : World} (h : Up w w1) (q : Nat) : Up w (w1.drewN q) := h.drewN q

set_option maxRecDepth 100000 in
set_option maxHeartbeats 3200000 in
theorem rfirst_any (nv v : Value) (ns : List Nd) (ss : List ByteArray) (hl : ns.length ≤ 1000000000) (hnl : ∀ x ∈ ns, x.needs.length ≤ 1000000000) (hsl : ss.length ≤ 1000000000) (hsz : ∀ x ∈ ns, x.id.size ≤ 9223372036854775807) (w : World) (h : NdAt w nv ns) (hs : StrsAt w v ss) :
    Calls Tryz.prog 63 #[nv, v] w fun e w' => e = .returned (.int .i64 (optI (firstF (idA (grO ns)) (freeN (grO ns) (dts ss))))) ∧ Up w w' := by
  obtain ⟨ao, cap, rfl⟩ := h.sl.form
  obtain ⟨so, sc, rfl⟩ := hs.form
  have H := Lib.hid h
  have HS := Lib.hid hs
  have HL := Lib.hid (grO_len ns)
  have HNN := Lib.hid hnl
  have HSZ := Lib.hid hsz
  clear h hs hnl hsz
  go_enter Tryz.func63, Tryz.ntmps63
  go_wp2_with fail
  go_loopg [5, 6] ns.length (RFirRel w (grO ns) (dts ss))
  case atStart => exact ⟨0, none, rfl, rfl, Nat.zero_le _, by rw [HL.out]; rfl, rfl, fun j hj => (by cases hj), Up.refl _⟩
  case round =>
    obtain ⟨k, b, rfl, rfl, hk, hff, hbest, hbl, hu⟩ := hrel
    rw [HL.out] at hk hff
    subst hff
    have HB := Lib.hid hbest
    have HU := Lib.hid hu
    have HBL := Lib.hid hbl
    clear hbest hu hbl
    by_cases hlt : k < ns.length
    · have hN := H.out.below HU.out.b
      obtain ⟨nb, noff, rfl, hnb, hc0, hc1, hsx⟩ := hN.at2 hlt
      have hii : (k : Int) < (ns.length : Int) := by omega
      have HDF := Lib.hid (drop_filter (frB (grO ns) (dts ss)) (n := (grO ns).length) (i := k) (by rw [HL.out]; exact hlt))
      have HID := Lib.hid (grO_id ns hlt)
      have HNE : Hid (needA (grO ns) k = dts (ns.getD k default).needs) := grO_need ns hlt
      have HLN := Lib.hid (HNN.out (ns.getD k default) (by rw [List.getD, List.getElem?_eq_getElem hlt]; exact List.getElem_mem hlt))
      have HSX := Lib.hid (HSZ.out (ns.getD k default) (by rw [List.getD, List.getElem?_eq_getElem hlt]; exact List.getElem_mem hlt))
      obtain ⟨xao, xcap, hxe⟩ := hsx.form
      rw [hxe] at hc1 hsx
      have hS := HS.out.below HU.out.b
      have HA := Lib.hid (has_any _ ss (ns.getD k default).id (by omega) wr hS)
      have HW := Lib.hid (within_any _ _ (ns.getD k default).needs ss (Nat.le_trans HLN.out (by decide)) (by omega) wr hsx hS)
      have HFR : Hid (frB (grO ns) (dts ss) k = (!decide ((ns.getD k default).id.data.toList ∈ dts ss) && (dts (ns.getD k default).needs).all fun b => decide (b ∈ dts ss))) := by
        unfold Hid frB; rw [HID.out, HNE.out]
      have HNH := Lib.hid hN
      clear hxe hsx hS hN
      generalize hx : (ns.getD k default).id = x at *
      generalize (ns.getD k default).needs = nl at *
      clear hx
      generalize decide (x.data.toList ∈ dts ss) = q1 at *
      generalize ((dts nl).all fun b => decide (b ∈ dts ss)) = q2 at *
      cases q1 with
      | true =>
        have HFIN : Hid (bestF (idA (grO ns)) b (((List.range (grO ns).length).drop (k + 1)).filter (frB (grO ns) (dts ss))) = firstF (idA (grO ns)) (freeN (grO ns) (dts ss))) := by
          unfold Hid; rw [← HB.out, HDF.out, HFR.out]; rfl
        clear hc1
        as_aux_lemma =>
        go_wp2_with fail
        refine HA.out.mono ?_
        rintro e w5 ⟨rfl, rfl⟩
        go_wp2_with fail
        go_roundg (ns.length - (k + 1))
        case measure => omega
        case rel => exact ⟨k + 1, b, by go_num, rfl, by rw [HL.out]; omega, by rw [HL.out], HFIN.out, HBL.out, HU.out⟩
      | false =>
        cases q2 with
        | false =>
          have HFIN : Hid (bestF (idA (grO ns)) b (((List.range (grO ns).length).drop (k + 1)).filter (frB (grO ns) (dts ss))) = firstF (idA (grO ns)) (freeN (grO ns) (dts ss))) := by
            unfold Hid; rw [← HB.out, HDF.out, HFR.out]; rfl
          as_aux_lemma =>
          go_wp2_with fail
          refine HA.out.mono ?_
          rintro e w5 ⟨rfl, rfl⟩
          go_wp2_with fail
          refine HW.out.mono ?_
          rintro e w5 ⟨rfl, rfl⟩
          go_wp2_with fail
          go_roundg (ns.length - (k + 1))
          case measure => omega
          case rel => exact ⟨k + 1, b, by go_num, rfl, by rw [HL.out]; omega, by rw [HL.out], HFIN.out, HBL.out, HU.out⟩
        | true =>
          have HST : Hid (firstF (idA (grO ns)) (freeN (grO ns) (dts ss)) = bestF (idA (grO ns)) b (k :: ((List.range (grO ns).length).drop (k + 1)).filter (frB (grO ns) (dts ss)))) := by
            unfold Hid; rw [← HB.out, HDF.out, HFR.out]; rfl
          cases b with
          | none =>
            simp only [optI]
            as_aux_lemma =>
            go_wp2_with fail
            refine HA.out.mono ?_
            rintro e w5 ⟨rfl, rfl⟩
            go_wp2_with fail
            refine HW.out.mono ?_
            rintro e w5 ⟨rfl, rfl⟩
            go_upto_region 6 with fail
            go_quiet (fail)
            go_wp2_with fail
            go_roundg (ns.length - (k + 1))
            case measure => omega
            case rel => exact ⟨k + 1, some k, by go_num, rfl, by rw [HL.out]; omega, by rw [HL.out], HST.out.symm, fun j hj => (by injection hj with hj; rw [HL.out]; omega), HU.out.drewN _⟩
          | some j =>
            have hj := HBL.out j rfl
            rw [HL.out] at hj
            obtain ⟨_, hnc2, _⟩ := HNH.out.lit hj
            have HJD := Lib.hid (grO_id ns hj)
            have HSY := Lib.hid (HSZ.out (ns.getD j default) (by rw [List.getD, List.getElem?_eq_getElem hj]; exact List.getElem_mem hj))
            have hjj : ((j : Nat) : Int) < (ns.length : Int) := by omega
            have hj0 : decide (((j : Nat) : Int) < 0) = false := by simp
            have CM := fun W => Lib.hid (rcompare_any x (ns.getD j default).id HSX.out HSY.out W)
            generalize (ns.getD j default).id = y at *
            rw [bestF, HID.out, HJD.out] at HST
            simp only [optI]
            generalize natC x.data.toList y.data.toList = q at *
            by_cases hq : q < 0
            · rw [if_pos hq] at HST
              as_aux_lemma =>
              go_wp2_with fail
              refine HA.out.mono ?_
              rintro e w5 ⟨rfl, rfl⟩
              go_wp2_with fail
              refine HW.out.mono ?_
              rintro e w5 ⟨rfl, rfl⟩
              go_upto_region 6 with fail
              go_still_tail 13, (by kernel_rfl)
              change wpList _ _ _ _ _ (World.drew _)
              go_wp2_with fail
              refine (CM _).out.mono ?_
              rintro e w5 ⟨rfl, hu5⟩
              have HU5 := Lib.hid (HU.out.trans ((Up.refl _).drew.trans hu5))
              clear hu5 CM
              go_wp2_with fail
              go_roundg (ns.length - (k + 1))
              case measure => omega
              case rel => exact ⟨k + 1, some k, by go_num, rfl, by rw [HL.out]; omega, by rw [HL.out], HST.out.symm, fun j hj => (by injection hj with hj; rw [HL.out]; omega), HU5.out⟩
            · rw [if_neg hq] at HST
              have hq1 : decide (q < 0) = false := by simp; omega
              clear hq
              as_aux_lemma =>
              go_wp2_with fail
              refine HA.out.mono ?_
              rintro e w5 ⟨rfl, rfl⟩
              go_wp2_with fail
              refine HW.out.mono ?_
              rintro e w5 ⟨rfl, rfl⟩
              go_upto_region 6 with fail
              go_still_tail 13, (by kernel_rfl)
              change wpList _ _ _ _ _ (World.drew _)
              go_wp2_with fail
              refine (CM _).out.mono ?_
              rintro e w5 ⟨rfl, hu5⟩
              have HU5 := Lib.hid (HU.out.trans ((Up.refl _).drew.trans hu5))
              clear hu5 CM
              go_wp2_with fail
              go_roundg (ns.length - (k + 1))
              case measure => omega
              case rel => exact ⟨k + 1, some j, by go_num, rfl, by rw [HL.out]; omega, by rw [HL.out], HST.out.symm, HBL.out, HU5.out⟩
    · have he : k = ns.length := by omega
      subst he
      have HF : Hid (b = firstF (idA (grO ns)) (freeN (grO ns) (dts ss))) := by
        have h1 := HB.out
        rw [← HL.out, drop_filter_end] at h1
        unfold Hid
        rw [← h1]
        cases b <;> rfl
      as_aux_lemma =>
      go_wp2_with fail
      go_ret
      exact ⟨by rw [HF.out]; rfl, HU.out⟩

def nodesL (ns : List Nd) (out : List Nat) : List Nd := out.map fun i => ns.getD i default
def idsL (ns : List Nd) (out : List Nat) : List ByteArray := out.map fun i => (ns.getD i default).id
theorem idsL_names (ns : List Nd) {out : List Nat} (h : ∀ k ∈ out, k < ns.length) : dts (idsL ns out) = namesG (grO ns) out := by
  unfold dts idsL namesG
  rw [List.map_map]
  exact List.map_congr_left fun k hk => (grO_id ns (h k hk)).symm
theorem nodesL_gr (ns : List Nd) {out : List Nat} (h : ∀ k ∈ out, k < ns.length) : grO (nodesL ns out) = out.map fun i => (idA (grO ns) i, needA (grO ns) i) := by
  unfold nodesL grO
  rw [List.map_map]
  refine List.map_congr_left fun k hk => ?_
  have h1 := grO_id ns (h k hk)
  have h2 := grO_need ns (h k hk)
  unfold grO at h1 h2
  rw [h1, h2]
  rfl
def ROrdRel (w1 : World) (ns : List Nd) (f : Nat) (t3 t4 t5 : Value) (wr : World) : Prop :=
  ∃ out : List Nat, t5 = .int .i64 (optI (firstF (idA (grO ns)) (freeN (grO ns) (namesG (grO ns) out)))) ∧ Listed (grO ns) out ∧ ordTo (grO ns) ((grO ns).length - out.length) out = ordG (grO ns) ∧ f = (grO ns).length - out.length ∧
    wr.ownsRow w1.heap.size 48 2 t3 (nodesL ns out).length ((nodesL ns out).flatMap Nd.cells) ∧ wr.ownsRow w1.heap.size 9 1 t4 (idsL ns out).length ((idsL ns out).map Value.string) ∧ (∀ k, t3.ownBlock = some k → t4.ownBlock ≠ some k) ∧ Below w1.heap.size w1 wr
def ROrdPost (ns : List Nd) (w : World) (e : Ending) (w' : World) : Prop := ∃ v, e = .returned v ∧ NdAt w' v (nodesL ns (ordG (grO ns))) ∧ Below w.heap.size w w'
theorem nodes_len (ns : List Nd) (out : List Nat) : (nodesL ns out).length = out.length := by simp [nodesL]
theorem idsL_len (ns : List Nd) (out : List Nat) : (idsL ns out).length = out.length := by simp [idsL]
theorem nodes_mem {ns : List Nd} {out : List Nat} (h : ∀ k ∈ out, k < ns.length) : ∀ x ∈ nodesL ns out, x ∈ ns := by
  intro x hx
  obtain ⟨k, hk, rfl⟩ := List.mem_map.1 hx
  have := h k hk
  rw [List.getD, List.getElem?_eq_getElem this]
  exact List.getElem_mem this

set_option maxRecDepth 100000 in
set_option maxHeartbeats 3200000 in
theorem rorder_any (nv : Value) (ns : List Nd) (hS : Sound (grO ns)) (hnl : ∀ x ∈ ns, x.needs.length ≤ 1000000000) (hsz : ∀ x ∈ ns, x.id.size ≤ 9223372036854775807) (w : World) (h : NdAt w nv ns) :
    Calls Tryz.prog 37 #[nv] w (ROrdPost ns w) := by
  have hl : ns.length ≤ 1024 := by have := hS.len; rwa [grO_len] at this
  have FI := fun W (hW : Below w.heap.size w W) v ss (hsl : ss.length ≤ 1000000000) (hs : StrsAt W v ss) => Lib.hid (rfirst_any nv v ns ss (by omega) hnl hsl hsz W (h.below hW) hs)
  obtain ⟨ao, cap, rfl⟩ := h.sl.form
  obtain ⟨i48, hi48⟩ := Tryz.info48R'
  obtain ⟨i9, hi9⟩ := Tryz.info9'
  have HI := Lib.hid hi48
  have HI9 := Lib.hid hi9
  have H := Lib.hid h
  have HSO := Lib.hid hS
  have HL := Lib.hid (grO_len ns)
  have HF0 := FI w (Below.refl _ _) (.slice none 0 0) [] (by simp) (.inl ⟨_, _, rfl, rfl⟩)
  obtain ⟨q0, hq0⟩ : ∃ q0, optI (firstF (idA (grO ns)) (freeN (grO ns) (dts []))) = q0 := ⟨_, rfl⟩
  rw [hq0] at HF0
  have HQ0 := Lib.hid hq0
  clear h hnl hsz hi48 hi9 hS hq0
  go_enter Tryz.func37, Tryz.ntmps37
  go_wp2_with fail
  refine HF0.out.mono ?_
  rintro e w1 ⟨rfl, hu1⟩
  have HU1 := Lib.hid hu1
  clear hu1 HF0
  go_wp2_with fail
  go_loopg [3, 4, 5] ns.length (ROrdRel w ns)
  case atStart =>
    refine ⟨[], by rw [← HQ0.out]; rfl, Listed.nil _, rfl, by rw [HL.out]; rfl, World.ownsRow_nil _ _ _ _, World.ownsRow_nil _ _ _ _, fun k hk => (by cases hk), HU1.out.b⟩
  case round =>
    obtain ⟨out, rfl, hli, hot, hff, hr3, hr4, hap, hu⟩ := hrel
    rw [HL.out] at hff
    subst hff
    have HOF := Lib.hid (ord_from HSO.out hli hot)
    have HLI := Lib.hid hli
    have HLT : Hid (∀ k ∈ out, k < ns.length) := fun k hk => by have := hli.lt k hk; rwa [HL.out] at this
    have HR3 := Lib.hid hr3
    have HR4 := Lib.hid hr4
    have HAP := Lib.hid hap
    have HU := Lib.hid hu
    have hol := hli.len
    rw [HL.out] at hol
    have HNL := Lib.hid (nodes_len ns out)
    have HIL := Lib.hid (idsL_len ns out)
    obtain ⟨a3, c3, rfl⟩ := ownsRow_form hr3
    obtain ⟨a4, c4, rfl⟩ := ownsRow_form hr4
    rw [nodes_len] at HR3 HAP ⊢
    rw [idsL_len] at HR4 HAP ⊢
    clear hli hot hr3 hr4 hap hu
    cases hfi : firstF (idA (grO ns)) (freeN (grO ns) (namesG (grO ns) out)) with
    | none =>
      have HE : Hid (out = ordG (grO ns)) := HOF.out.2 hfi
      have HFIN : Hid (NdAt wr (.slice a3 out.length c3) (nodesL ns (ordG (grO ns)))) := by
        unfold Hid
        rw [← HE.out]
        refine ⟨SlAt.of_row (by rw [HNL.out]; exact HR3.out) nd_lenR (by omega), fun x hx => ?_⟩
        exact (H.out.below HU.out).st x (nodes_mem HLT.out x hx)
      clear hfi HOF
      simp only [optI]
      as_aux_lemma =>
      go_wp2_with fail
      go_ret
      exact ⟨_, rfl, HFIN.out, HU.out⟩
    | some i =>
      obtain ⟨h1, h2, h3, h4⟩ := HOF.out.1 i hfi
      rw [HL.out] at h3 h4
      have HL2 := Lib.hid h1
      have HO2 := Lib.hid h2
      have HLT2 : Hid (∀ k ∈ out ++ [i], k < ns.length) := fun k hk => by have := h1.lt k hk; rwa [HL.out] at this
      clear hfi HOF h1 h2
      obtain ⟨nb, noff, rfl, hnb, hc0, hc1, hsx⟩ := (H.out.below HU.out).at2 h3
      obtain ⟨xao, xcap, hxe⟩ := hsx.form
      rw [hxe] at hc1
      have HXE := Lib.hid hxe
      have HC : Hid (∀ W, Below w.heap.size w W → W.cell? ⟨nb, noff + i * 2, none⟩ = some (.string (ns.getD i default).id)) := fun W hW => ((H.out.below hW).lit h3).2.1
      clear hsx hxe
      have hii : (i : Int) < (ns.length : Int) := by omega
      have hi0 : (0 : Int) ≤ (i : Int) := by omega
      have HNS : Hid (nodesL ns (out ++ [i]) = nodesL ns out ++ [ns.getD i default]) := by unfold Hid nodesL; rw [List.map_append]; rfl
      have HIS : Hid (idsL ns (out ++ [i]) = idsL ns out ++ [(ns.getD i default).id]) := by unfold Hid idsL; rw [List.map_append]; rfl
      have HNA := Lib.hid (idsL_names ns HLT2.out)
      generalize hx : ns.getD i default = x at *
      clear hx
      have hs1 := HU.out.size
      simp only [optI]
      go_wp2_with (at_builtin; refine wpList_append2 rfl _ _ 22 rfl w.heap.size 48 i48 (.agg #[.string ByteArray.empty, .slice none 0 0]) 2 40 Tryz.underlying22 HI.out rfl (by decide) _ _ _ rfl (World.ownsRow.alloc HR3.out _) ⟨wr.heap.size, 0, none⟩ 1 1 [.string x.id, .slice xao x.needs.length xcap] rfl rfl (World.news_of_block (cs := #[.string x.id, .slice xao x.needs.length xcap]) (t := 48) (fr := (0, 0)) (by exact hp_new rfl)) rfl (by unfold maxLen; omega) (by omega) (by simp; omega) ?_)
      intro v3 wa hown hgrow hat
      obtain ⟨a3', c3', rfl⟩ := ownsRow_form hown
      have hsz3 : (wr.alloc (.cells #[.string x.id, .slice xao x.needs.length xcap] 48 (0, 0))).heap.size = wr.heap.size + 1 := by simp
      have hb4 : ∀ k, (Value.slice a4 out.length c4).ownBlock = some k → k < wr.heap.size := fun k hk => (World.ownsRow.lt HR4.out k hk).2
      have hb3 : ∀ k, (Value.slice a3 out.length c3).ownBlock = some k → w.heap.size ≤ k := fun k hk => (World.ownsRow.lt HR3.out k hk).1
      have hap2 : ∀ k, (Value.slice a3' (out.length + 1) c3').ownBlock = some k → (Value.slice a4 out.length c4).ownBlock ≠ some k := fun k hk e => by
        rcases hat with h | h
        · exact HAP.out k (h ▸ hk) e
        · rw [h] at hk
          have h9 := hb4 k e
          injection hk with hk
          omega
      have HAP2 := Lib.hid hap2
      have HBA : Hid (Below w.heap.size w wa) := (HU.out.alloc hs1 _).grown hgrow (by rw [hsz3]; omega) fun k hk => hb3 k hk
      have HR4A : Hid (wa.ownsRow w.heap.size 9 1 (.slice a4 out.length c4) out.length ((idsL ns out).map Value.string)) := by
        refine World.ownsRow.kept (World.ownsRow.alloc HR4.out _) hgrow ?_
        cases ho : (Value.slice a4 out.length c4).ownBlock with
        | none => exact .inl rfl
        | some kk => exact .inr fun e => HAP.out kk e.symm ho
      have HR3A : Hid (wa.ownsRow w.heap.size 48 2 (.slice a3' (out.length + 1) c3') (out.length + 1) ((nodesL ns out ++ [x]).flatMap Nd.cells)) := by
        unfold Hid
        rw [List.flatMap_append]
        simp only [List.flatMap_cons, List.flatMap_nil, List.append_nil, Nd.cells, HXE.out]
        exact hown
      have hs2 := HBA.out.size
      have hc2 := HC.out wa HBA.out
      clear hown hgrow hat hsz3 hb4 hb3 hap2 hc0 hc1 HR3 HR4 HAP HC HXE
      go_wp2_with (at_builtin; refine wpList_append2 rfl _ _ 35 rfl w.heap.size 9 i9 (.string ByteArray.empty) 1 16 Tryz.underlying35 HI9.out rfl (by decide) _ _ _ rfl (World.ownsRow.alloc HR4A.out _) ⟨wa.heap.size, 0, none⟩ 1 1 [.string x.id] rfl rfl (cells_newAt rfl _ 9 (0, 0)) rfl (by unfold maxLen; omega) (by omega) (by simp; omega) ?_)
      intro v4 wb hown hgrow hat
      obtain ⟨a4', c4', rfl⟩ := ownsRow_form hown
      have hsz4 : (wa.alloc (.cells #[.string x.id] 9 (0, 0))).heap.size = wa.heap.size + 1 := by simp
      have hb3 : ∀ k, (Value.slice a3' (out.length + 1) c3').ownBlock = some k → k < wa.heap.size := fun k hk => (World.ownsRow.lt HR3A.out k hk).2
      have hb4 : ∀ k, (Value.slice a4 out.length c4).ownBlock = some k → w.heap.size ≤ k := fun k hk => (World.ownsRow.lt HR4A.out k hk).1
      have HAP3 : Hid (∀ k, (Value.slice a3' (out.length + 1) c3').ownBlock = some k → (Value.slice a4' (out.length + 1) c4').ownBlock ≠ some k) := fun k hk e => by
        rcases hat with h | h
        · exact HAP2.out k hk (h ▸ e)
        · rw [h] at e
          have h9 := hb3 k hk
          injection e with e
          omega
      have HBB : Hid (Below w.heap.size w wb) := (HBA.out.alloc hs2 _).grown hgrow (by rw [hsz4]; omega) fun k hk => hb4 k hk
      have HR3B : Hid (wb.ownsRow w.heap.size 48 2 (.slice a3' (out.length + 1) c3') (out.length + 1) ((nodesL ns (out ++ [i])).flatMap Nd.cells)) := by
        unfold Hid
        rw [HNS.out]
        refine World.ownsRow.kept (World.ownsRow.alloc HR3A.out _) hgrow ?_
        cases ho : (Value.slice a3' (out.length + 1) c3').ownBlock with
        | none => exact .inl rfl
        | some kk => exact .inr fun e => HAP2.out kk ho e.symm
      have HR4B : Hid (wb.ownsRow w.heap.size 9 1 (.slice a4' (out.length + 1) c4') (out.length + 1) ((idsL ns (out ++ [i])).map Value.string)) := by
        unfold Hid
        rw [HIS.out, List.map_append]
        exact hown
      have hll : (idsL ns (out ++ [i])).length = out.length + 1 := by rw [idsL_len]; simp
      have FB := FI wb HBB.out (.slice a4' (out.length + 1) c4') (idsL ns (out ++ [i])) (by rw [hll]; omega) (StrsAt.of_row (by rw [hll]; exact HR4B.out))
      rw [HNA.out] at FB
      obtain ⟨q1, hq1⟩ : ∃ q1, optI (firstF (idA (grO ns)) (freeN (grO ns) (namesG (grO ns) (out ++ [i])))) = q1 := ⟨_, rfl⟩
      rw [hq1] at FB
      have HQ1 := Lib.hid hq1
      clear hown hgrow hat hb3 hb4 hsz4 hll hq1 hc2 FI HR3A HR4A HAP2
      as_aux_lemma =>
      go_wp2_with fail
      refine FB.out.mono ?_
      rintro e wc ⟨rfl, hu⟩
      have HUC := Lib.hid hu
      clear hu
      have hnl3 : (nodesL ns (out ++ [i])).length = out.length + 1 := by rw [nodes_len]; simp
      have hil3 : (idsL ns (out ++ [i])).length = out.length + 1 := by rw [idsL_len]; simp
      have HREL : Hid (ROrdRel w ns (ns.length - (out.length + 1)) (.slice a3' (out.length + 1) c3') (.slice a4' (out.length + 1) c4') (.int .i64 q1) wc) := by
        refine ⟨out ++ [i], by rw [HQ1.out], HL2.out, HO2.out, by rw [HL.out]; simp, ?_, ?_, HAP3.out, HBB.out.trans (HUC.out.b.mono HBB.out.size)⟩
        · rw [hnl3]; exact ownsRow_below HR3B.out HUC.out.b
        · rw [hil3]; exact ownsRow_below HR4B.out HUC.out.b
      clear hnl3 hil3
      go_wp2_with fail
      go_roundg (ns.length - (out.length + 1))
      case measure => omega
      case rel => exact HREL.out
end Go.Proofs.YtfegmmafcopbpaaGreatDoor
