/- The walk over Ready of package graph, whole. -/
import Derived.Test.YtfegmmafcopbpaaGreatDoorGw10
namespace Go.Proofs.YtfegmmafcopbpaaGreatDoor
open Go.RowKit

set_option maxRecDepth 100000 in
set_option maxHeartbeats 6400000 in
theorem ready_any (nv dv : Value) (ns : List Nd) (ds : List ByteArray) (m : Int) (hlen : 40 * ns.length ≤ 281474976710656) (hdl : ds.length ≤ 1000000000) (w : World) (hN : NdAt w nv ns) (hD : StrsAt w dv ds) (hm : w.cell? ⟨0, 0, none⟩ = some (.int .i64 m)) (hml : 0 < w.heap.size) :
    Calls Tryz.prog 25 #[nv, dv] w (StrPost (readyF (grO ns) (ds.map (·.data.toList))) w) := by
  have CK := Lib.hid (check_any nv ns m hlen w hN hm hml)
  have HN := Lib.hid hN
  have HD := Lib.hid hD
  obtain ⟨nao, ncap, rfl⟩ := hN.sl.form
  obtain ⟨dao, dcap, rfl⟩ := hD.form
  have HNL := Lib.hid (grO_len ns)
  obtain ⟨i9, hi9⟩ := Tryz.info9'
  have HI := Lib.hid hi9
  have hmm : ∀ W : World, (Instr.makeMap 74 none).run Tryz.prog W = .ok (.map (some W.heap.size)) (W.alloc (.map #[] 0)) := fun W => run_makeMap _ W
  clear hN hD hm hi9
  go_enter Tryz.func25, Tryz.ntmps25
  go_wp2_with fail
  refine CK.out.mono ?_
  rintro e w1 ⟨p, rfl, hb, h0, h1⟩
  have HB := Lib.hid hb
  clear hb CK
  by_cases hf : formedF (grO ns) = 0
  · obtain ⟨g, rfl, hnet⟩ := h0 hf
    have hS := formed_sound hf
    have HNN := Lib.hid (sound_needs hS)
    have HF : Hid (readyF (grO ns) (ds.map (·.data.toList)) = sortF (readyL (grO ns) (ds.map (·.data.toList)))) := by unfold Hid readyF; rw [if_neg (by simp [hf])]
    have hln := hS.len
    rw [grO_len] at hln
    have HSZ := Lib.hid (sizes_of hS)
    rw [hf]
    clear h0 h1 hf hnet hS
    go_upto_region 5 with fail
    have HB2 := Lib.hid ((HB.out.alloc HB.out.size (.map #[] 0)).alloc (by have := HB.out.size; simp; omega) (.cells #[.map (some w1.heap.size)] 74 (0, 0)))
    have HM2 : Hid (MapF .string Value.string ((w1.alloc (.map #[] 0)).alloc (.cells #[.map (some w1.heap.size)] 74 (0, 0))) w1.heap.size (seenF [])) := by
      refine ((mapF_new rfl 0).of_block (hp_old (by simp))).congr fun s => ?_
      unfold seenF; simp
    have HC2 : Hid (((w1.alloc (.map #[] 0)).alloc (.cells #[.map (some w1.heap.size)] 74 (0, 0))).cell? ⟨w1.heap.size + 1, 0, none⟩ = some (.map (some w1.heap.size))) := by
      unfold Hid; rw [cell_of_blk (hp_new (by simp))]; rfl
    have hs2 : ((w1.alloc (.map #[] 0)).alloc (.cells #[.map (some w1.heap.size)] 74 (0, 0))).heap.size = w1.heap.size + 2 := by simp
    have HS2 := Lib.hid hs2
    have hs1 := HB.out.size
    clear hmm hs2 HB
    generalize (w1.alloc (.map #[] 0)).alloc (.cells #[.map (some w1.heap.size)] 74 (0, 0)) = w2 at *
    generalize hcb : w1.heap.size + 1 = cb at *
    generalize hbm : w1.heap.size = bm at *
    have HCB := Lib.hid hcb
    have HBM := Lib.hid hbm
    have hbm2 : bm ≠ cb := by omega
    have hs22 : cb < w2.heap.size := by have := HS2.out; omega
    have hws2 : w.heap.size ≤ bm := hs1
    clear hcb hbm
    go_upto_block 0 with fail
    go_cut [23] (fun s23 wx => Kp w2.heap.size (· = bm) w2 wx ∧ MapF .string Value.string wx bm (seenF (ds.map (·.data.toList))))
    case first =>
      go_wp2_with fail
      go_loopg [23] ds.length (FinRel w2 bm ds)
      case atStart => exact ⟨0, rfl, Nat.zero_le _, rfl, Kp.refl _ _ _, HM2.out⟩
      case round =>
        obtain ⟨k, rfl, hk, rfl, hkp, hmp⟩ := hrel
        have HKP := Lib.hid hkp
        have HMP := Lib.hid hmp
        have HBW := Lib.hid (HB2.out.trans (hkp.below HB2.out.size fun j hj e => by omega))
        have hc : wr.cell? ⟨cb, 0, none⟩ = some (.map (some bm)) := (World.cell?_of_block (a := ⟨cb, 0, none⟩) (hkp.block cb hs22 (fun e => hbm2 e.symm))).trans HC2.out
        clear hkp hmp
        by_cases hlt : k < ds.length
        · have hki : (k : Int) < (ds.length : Int) := by omega
          obtain ⟨db, doff, rfl, hdb, hdc⟩ := (HD.out.below HBW.out).at_ hlt
          have HTK : Hid ((ds.take (k + 1)).map (·.data.toList) = (ds.take k).map (·.data.toList) ++ [(ds.getD k ByteArray.empty).data.toList]) := by
            unfold Hid; rw [List.take_add_one, List.getD, List.getElem?_eq_getElem hlt, List.map_append]; rfl
          generalize ds.getD k ByteArray.empty = y at *
          have HSW := Lib.hid (seenF_new ((ds.take k).map (·.data.toList)) (s := y) rfl)
          go_wp2_with (refine wpList_updateF rfl _ _ _ rfl HMP.out rfl Tryz.underlying74 Tryz.underlying9 y rfl trivial (fun b hb => by injection hb) (.bool true) rfl (seenF ((ds.take k).map (·.data.toList) ++ [y.data.toList])) HSW.out.1 HSW.out.2 ?_; intro o' w4 hW4 hM4; have HW4 := Lib.hid hW4; have HM4 := Lib.hid hM4; clear hW4 hM4)
          go_roundg (ds.length - (k + 1))
          case measure => omega
          case rel => exact ⟨k + 1, by go_num, by omega, rfl, HKP.out.wrote HW4.out (.inr rfl), by rw [HTK.out]; exact HM4.out⟩
        · have hke : k = ds.length := by omega
          subst hke
          go_wp2_with fail
          go_meet
          have := HMP.out
          rw [List.take_length] at this
          exact ⟨HKP.out, this⟩
    case rest =>
      obtain ⟨hk3, hm3⟩ := hcut
      generalize wc = w3 at *
      have HB3 := Lib.hid (HB2.out.trans (hk3.below HB2.out.size fun j hj e => by omega))
      have HM3 := Lib.hid hm3
      have HC3 : Hid (w3.cell? ⟨cb, 0, none⟩ = some (.map (some bm))) := (World.cell?_of_block (a := ⟨cb, 0, none⟩) (hk3.block cb hs22 (fun e => hbm2 e.symm))).trans HC2.out
      have hcb3 : cb < w3.heap.size := Nat.lt_of_lt_of_le hs22 hk3.size
      have hs3 := HB3.out.size
      have HDT := Lib.hid (rdyS_datas ns (ds.map (·.data.toList)))
      clear hk3 hm3 HC2 HM2 HB2
      generalize hdone : ds.map (·.data.toList) = done at *
      have HDONE := Lib.hid hdone
      clear hdone
      go_wp2_with fail
      go_loopg [32, 10] ns.length (RdyRel w3 ns done)
      case atStart => exact ⟨0, rfl, Nat.zero_le _, rfl, Below.refl _ _, World.ownsRow_nil _ _ _ _⟩
      case round =>
        obtain ⟨k, rfl, hk, rfl, hb, hr⟩ := hrel
        obtain ⟨ao, cap, rfl⟩ := ownsRow_form hr
        have HBR := Lib.hid hb
        have HR := Lib.hid hr
        have hhl := rdyS_len ns done k
        have HBW := Lib.hid (HB3.out.trans (hb.mono hs3))
        clear hb hr
        by_cases hlt : k < ns.length
        · have hki : (k : Int) < (ns.length : Int) := by omega
          obtain ⟨nb, noff, rfl, hnb, hc0, hc1, hsx⟩ := (HN.out.below HBW.out).at2 hlt
          have HSC := Lib.hid (rdyS_succ ns done k)
          have HRB : Hid (rdyB (grO ns) done k = (!decide ((ns.getD k default).id.data.toList ∈ done) && ((ns.getD k default).needs.map (·.data.toList)).all fun b => decide (b ∈ done))) := by
            unfold Hid rdyB; rw [grO_id ns hlt, grO_need ns hlt]
          have HLN := Lib.hid (HNN.out (ns.getD k default) (by rw [List.getD, List.getElem?_eq_getElem hlt]; exact List.getElem_mem hlt))
          obtain ⟨xao, xcap, hxe⟩ := hsx.form
          have HSX := Lib.hid hsx
          rw [hxe] at hc1 HSX
          clear hsx hxe
          generalize (ns.getD k default).id = x at *
          generalize (ns.getD k default).needs = nl at *
          generalize hss : rdyS ns done k = ss at *
          have HSS := Lib.hid hss
          clear hss
          go_upto_region 14 with fail
          have HB5 := Lib.hid (HBR.out.alloc HBR.out.size (.cells #[.string x, .slice xao nl.length xcap] 48 (0, 0)))
          have HR5 := Lib.hid (World.ownsRow.alloc HR.out (.cells #[.string x, .slice xao nl.length xcap] 48 (0, 0)))
          have HSX5 := Lib.hid (HSX.out.below ((Below.refl wr.heap.size wr).alloc (Nat.le_refl _) (.cells #[.string x, .slice xao nl.length xcap] 48 (0, 0))))
          have HM5 := Lib.hid (HM3.out.below HB5.out)
          have hcm : (wr.alloc (.cells #[.string x, .slice xao nl.length xcap] 48 (0, 0))).cell? ⟨cb, 0, none⟩ = some (.map (some bm)) := (HB5.out.cell (p := ⟨cb, 0, none⟩) hcb3).trans HC3.out
          have hn0 : (wr.alloc (.cells #[.string x, .slice xao nl.length xcap] 48 (0, 0))).cell? ⟨wr.heap.size, 0, none⟩ = some (.string x) := by rw [cell_of_blk (hp_new rfl)]; rfl
          have hn1 : (wr.alloc (.cells #[.string x, .slice xao nl.length xcap] 48 (0, 0))).cell? ⟨wr.heap.size, 1, none⟩ = some (.slice xao nl.length xcap) := by rw [cell_of_blk (hp_new rfl)]; rfl
          clear HR HBR HBW HSX hc0 hc1
          generalize wr.alloc (.cells #[.string x, .slice xao nl.length xcap] 48 (0, 0)) = w5 at *
          generalize wr.heap.size = cn at *
          have LK := MapF.lookup (P := Tryz.prog) HM5.out Tryz.underlying74 Tryz.underlying9 (z := .bool false) (by kernel_rfl) (a := x) trivial false
          by_cases hin : x.data.toList ∈ done
          · have e : seenF done x = some (.bool true) := by unfold seenF; rw [if_pos hin]
            rw [e] at LK
            simp only [Option.getD_some, if_false, Bool.false_eq_true] at LK
            have HS2 : Hid (rdyS ns done (k + 1) = ss) := by unfold Hid; rw [HSC.out, HRB.out, if_neg (by simp [hin]), List.append_nil]
            clear e hin HSC HRB
            as_aux_lemma =>
            go_wp2_with fail
            go_roundg (ns.length - (k + 1))
            case measure => omega
            case rel => exact ⟨k + 1, by go_num, by omega, rfl, HB5.out, by rw [HS2.out]; exact HR5.out⟩
          · have e : seenF done x = none := by unfold seenF; rw [if_neg hin]
            rw [e] at LK
            simp only [Option.getD_none, if_false, Bool.false_eq_true] at LK
            have CN := Lib.hid (con_any done (.slice xao nl.length xcap) nl HLN.out bm cb w5 HSX5.out hcm HM5.out)
            have HRB2 : Hid (rdyB (grO ns) done k = (nl.map (·.data.toList)).all fun b => decide (b ∈ done)) := by unfold Hid; rw [HRB.out]; simp [hin]
            clear e hin HRB
            generalize ((nl.map (·.data.toList)).all fun b => decide (b ∈ done)) = al at *
            go_wp2_with fail
            refine CN.out.mono ?_
            rintro e w6 ⟨rfl, q, rfl⟩
            have HB6 : Hid (Below w3.heap.size w3 (w5.drewN q)) := ((Kp.of_below (X := fun _ => False) HB5.out).drewN q).below (Nat.le_refl _) (fun _ _ => id)
            have HR6 : Hid ((w5.drewN q).ownsRow w3.heap.size 9 1 (.slice ao ss.length cap) ss.length (ss.map Value.string)) := HR5.out
            have hn06 : (w5.drewN q).cell? ⟨cn, 0, none⟩ = some (.string x) := hn0
            clear CN LK hn0 hn1 hcm HB5 HR5 HM5 HSX5
            generalize w5.drewN q = w6 at *
            cases al with
            | true =>
              have HS2 : Hid (rdyS ns done (k + 1) = ss ++ [x]) := by unfold Hid; rw [HSC.out, HRB2.out]; rfl
              clear HSC HRB2
              as_aux_lemma =>
              go_wp2_with (at_builtin; refine wpList_append2 rfl _ _ 35 rfl w3.heap.size 9 i9 (.string ByteArray.empty) 1 16 Tryz.underlying35 HI.out rfl (by decide) _ _ _ rfl (HR6.out.alloc _) ⟨w6.heap.size, 0, none⟩ 1 1 [.string x] rfl rfl (cells_newAt rfl _ 9 (0, 0)) rfl (by unfold maxLen; omega) (by omega) (by have := HB6.out.size; simp; omega) ?_)
              intro v' w7 hown hgrow hwh
              obtain ⟨ao', cap', rfl⟩ := ownsRow_form hown
              have HOWN := Lib.hid hown
              have HBG := Lib.hid ((HB6.out.alloc HB6.out.size _).grown hgrow (by have := HB6.out.size; simp; omega) (fun j hj => (HR6.out.lt j hj).1))
              clear hown hgrow hwh
              go_wp2_with fail
              go_roundg (ns.length - (k + 1))
              case measure => omega
              case rel =>
                refine ⟨k + 1, by go_num, by omega, rfl, HBG.out, ?_⟩
                rw [HS2.out]
                have := HOWN.out
                simpa using this
            | false =>
              have HS2 : Hid (rdyS ns done (k + 1) = ss) := by unfold Hid; rw [HSC.out, HRB2.out, if_neg (by simp), List.append_nil]
              clear HSC HRB2
              as_aux_lemma =>
              go_wp2_with fail
              go_roundg (ns.length - (k + 1))
              case measure => omega
              case rel => exact ⟨k + 1, by go_num, by omega, rfl, HB6.out, by rw [HS2.out]; exact HR6.out⟩
        · have hke : k = ns.length := by omega
          subst hke
          have HM : Hid (∀ s ∈ rdyS ns done ns.length, s.size ≤ 9223372036854775807) := fun s hs => by
            unfold rdyS at hs
            obtain ⟨j, hj, rfl⟩ := List.mem_map.1 hs
            rw [List.mem_filter, List.mem_range] at hj
            exact HSZ.out _ (by rw [List.getD, List.getElem?_eq_getElem hj.1]; exact List.getElem_mem hj.1)
          generalize rdyS ns done ns.length = ss at *
          have SO := Lib.hid (sorted_any _ ss (by omega) HM.out wr (StrsAt.of_row HR.out))
          go_wp2_with fail
          refine SO.out.mono ?_
          rintro e w5 ⟨r, rs, rfl, hr1, hr2, hb5⟩
          have HP : Hid (StrPost (readyF (grO ns) (ds.map (·.data.toList))) w (.returned r) w5) := ⟨r, rs, rfl, hr1, by rw [hr2, HDONE.out, HF.out, HDT.out], HBW.out.trans (hb5.mono HBW.out.size)⟩
          clear hr1 hr2 hb5 SO
          go_wp2_with fail
          go_ret
          exact HP.out
  · have hp := h1 hf
    subst hp
    have HV : Hid (readyF (grO ns) (ds.map (·.data.toList)) = []) := by unfold Hid readyF; rw [if_pos hf]
    clear h0 h1
    generalize formedF (grO ns) = fe at *
    have hfi : ((fe : Int) != 0) = true := by simp; exact hf
    go_wp2_with fail
    go_ret
    exact ⟨_, [], rfl, .inl ⟨_, _, rfl, rfl⟩, by rw [HV.out]; rfl, HB.out⟩
end Go.Proofs.YtfegmmafcopbpaaGreatDoor
