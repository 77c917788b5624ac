/- The walks over the reference's checks: ids, needs, formed. -/
import Derived.Test.YtfegmmafcopbpaaGreatDoorRg1
import Derived.StillTailTactics
import Derived.BigQuiet
namespace Go.Proofs.YtfegmmafcopbpaaGreatDoor
open Go.RowKit

theorem StrsAt.takeR {w : World} {ao : Option Addr} {n cap : Nat} {ss : List ByteArray} (h : StrsAt w (.slice ao n cap) ss) {k : Nat} (hk : k ≤ ss.length) : StrsAt w (.slice ao k cap) (ss.take k) := by
  have hlen : (ss.take k).length = k := by rw [List.length_take]; omega
  rcases h with ⟨ao', cap', e, rfl⟩ | ⟨b, off, cap', e, h2, hc, h3⟩
  · have : k = 0 := by simpa using hk
    subst this
    exact .inl ⟨_, _, rfl, by simp⟩
  · injection e with e1 e2 e3
    subst e1 e3
    refine .inr ⟨b, off, cap, by rw [hlen], h2, by omega, fun i hi => ?_⟩
    rw [hlen] at hi
    rw [h3 i (by omega), List.getD, List.getD, List.getElem?_take, if_pos hi]
theorem StrsAt.lenle {w : World} {b off n cap : Nat} {ss : List ByteArray} (h : StrsAt w (.slice (some ⟨b, off, none⟩) n cap) ss) (hne : 0 < ss.length) : ss.length ≤ cap := by
  rcases h with ⟨ao', cap', e, rfl⟩ | ⟨b, off, cap', e, h2, hc, h3⟩
  · cases hne
  · injection e with e1 e2 e3
    omega

theorem find_lt {l : List Bs} {k : Nat} {b : Bs} (h : l[k]? = some b) : decide (findF l b < (k : Int)) = decide (b ∈ l.take k) := by
  by_cases hm : b ∈ l.take k
  · rw [decide_eq_true hm, decide_eq_true_eq]
    unfold findF
    rw [if_pos (List.mem_of_mem_take hm)]
    have h1 : l.idxOf b = (l.take k).idxOf b := by
      conv => lhs; rw [← List.take_append_drop k l, List.idxOf_append, if_pos hm]
    have h2 := List.idxOf_lt_length_of_mem hm
    rw [List.length_take] at h2
    omega
  · rw [find_hit h hm, decide_eq_false hm, decide_eq_false_iff_not]
    omega
theorem find_neg (l : List Bs) (b : Bs) : decide (findF l b < (0 : Int)) = decide (b ∉ l) := by
  unfold findF
  by_cases h : b ∈ l
  · rw [if_pos h]; simp [h]
  · rw [if_neg h]; simp [h]
theorem ids_take_succ {G : Gr} {k : Nat} {b : Bs} (h : (idsG G)[k]? = some b) : (idsG G).take (k + 1) = (idsG G).take k ++ [b] := by
  rw [List.take_add_one, h]; rfl
theorem grO_drop (ns : List Nd) {k : Nat} (hk : k < ns.length) : (grO ns).drop k = ((ns.getD k default).id.data.toList, dts (ns.getD k default).needs) :: (grO ns).drop (k + 1) := by
  have h1 : k < (grO ns).length := by rw [grO_len]; exact hk
  rw [List.drop_eq_getElem_cons h1]
  congr 1
  simp [grO, dts, List.getD, List.getElem?_eq_getElem hk]
theorem ids_step (ns : List Nd) {k : Nat} (hk : k < ns.length) : idsF ((idsG (grO ns)).take k) ((grO ns).drop k) =
    if partsF (ns.getD k default).id.data.toList ≠ 0 then 1 else if (ns.getD k default).id.data.toList ∈ (idsG (grO ns)).take k then 7 else idsF ((idsG (grO ns)).take (k + 1)) ((grO ns).drop (k + 1)) := by
  rw [grO_drop ns hk, idsF, ids_take_succ (grO_ids ns hk)]

def RIdsRel (w1 : World) (G : Gr) (f : Nat) (t3 : Value) (wr : World) : Prop :=
  ∃ k : Nat, t3 = .int .i64 (k : Nat) ∧ k ≤ G.length ∧ f = G.length - k ∧ idsF ((idsG G).take k) (G.drop k) = idsF [] G ∧ Below w1.heap.size w1 wr

set_option maxRecDepth 100000 in
set_option maxHeartbeats 1600000 in
theorem rids_any (nv : Value) (ns : List Nd) (hl : ns.length ≤ 9223372036854775807) (w : World) (h : NdAt w nv ns) : Calls Tryz.prog 64 #[nv] w fun e w' => e = .returned (.int .i64 (idsF [] (grO ns) : Nat)) ∧ Below w.heap.size w w' := by
  obtain ⟨ao, cap, rfl⟩ := h.sl.form
  have H := Lib.hid h
  have HL := Lib.hid (grO_len ns)
  clear h
  go_enter Tryz.func64, Tryz.ntmps64
  go_wp2_with fail
  go_loopg [3] ns.length (RIdsRel w (grO ns))
  case atStart => exact ⟨0, rfl, Nat.zero_le _, by rw [HL.out]; rfl, by simp, Below.refl _ _⟩
  case round =>
    obtain ⟨k, rfl, hk, hff, hid, hb⟩ := hrel
    rw [HL.out] at hk hff
    subst hff
    have HID := Lib.hid hid
    have HB := Lib.hid hb
    have HN := H.out.below hb
    clear hid hb
    by_cases hlt : k < ns.length
    · obtain ⟨b, off, rfl, hbl, hc, _, _⟩ := HN.at2 hlt
      have hii : (k : Int) < (ns.length : Int) := by omega
      have HI := grO_ids ns hlt
      have HFL := find_lt HI
      have HST := Lib.hid (ids_step ns hlt)
      have HTK := Lib.hid (ids_take_succ HI)
      have HF := fun W (hW : Below wr.heap.size wr W) => Lib.hid (find_any _ ns (ns.getD k default).id hl W (HN.below hW))
      have HSC : Hid (∀ W, Below wr.heap.size wr W → W.cell? ⟨b, off + k * 2, none⟩ = some (.string (ns.getD k default).id)) := fun W hW => (hW.cell (p := ⟨b, off + k * 2, none⟩) hbl).trans hc
      generalize (ns.getD k default).id = x at *
      have PA := fun W => Lib.hid (rparts_any x W)
      generalize findF (idsG (grO ns)) x.data.toList = q at *
      clear HI HN
      go_wp2_with fail
      refine (PA _).out.mono ?_
      rintro e w5 ⟨v, ss, rfl, hb5, _, _⟩
      have HB5 := Lib.hid (HB.out.trans (hb5.mono HB.out.size))
      have HF5 := HF w5 hb5
      have hc5 := HSC.out w5 hb5
      clear hb5 PA HF HSC
      by_cases hp : partsF x.data.toList = 0
      · rw [hp]
        by_cases hm : x.data.toList ∈ (idsG (grO ns)).take k
        · rw [decide_eq_true hm] at HFL
          have HFIN : Hid (idsF [] (grO ns) = 7) := by unfold Hid; rw [← HID.out, HST.out, if_neg (by simp [hp]), if_pos hm]
          clear hm hp
          as_aux_lemma =>
          go_wp2_with fail
          refine HF5.out.mono ?_
          rintro e w6 ⟨rfl, rfl⟩
          go_wp2_with fail
          go_ret
          exact ⟨by rw [HFIN.out]; rfl, HB5.out⟩
        · rw [decide_eq_false hm] at HFL
          have HFIN : Hid (idsF ((idsG (grO ns)).take (k + 1)) ((grO ns).drop (k + 1)) = idsF [] (grO ns)) := by unfold Hid; rw [← HID.out, HST.out, if_neg (by simp [hp]), if_neg hm]
          clear hm hp
          as_aux_lemma =>
          go_wp2_with fail
          refine HF5.out.mono ?_
          rintro e w6 ⟨rfl, rfl⟩
          go_wp2_with fail
          go_roundg (ns.length - (k + 1))
          case measure => omega
          case rel => exact ⟨k + 1, by go_num, by rw [HL.out]; omega, by rw [HL.out], HFIN.out, HB5.out⟩
      · have HFIN : Hid (idsF [] (grO ns) = 1) := by unfold Hid; rw [← HID.out, HST.out, if_pos hp]
        have hp2 : (((partsF x.data.toList : Nat) : Int) != 0) = true := by simp; exact hp
        generalize partsF x.data.toList = pf at *
        clear hp
        as_aux_lemma =>
        go_wp2_with fail
        go_ret
        exact ⟨by rw [HFIN.out]; rfl, HB5.out⟩
    · have he : k = ns.length := by omega
      subst he
      have HFIN : Hid (idsF [] (grO ns) = 0) := by
        unfold Hid
        rw [← HID.out, show (grO ns).drop ns.length = [] by rw [← HL.out, List.drop_length], idsF]
      as_aux_lemma =>
      go_wp2_with fail
      go_ret
      exact ⟨by rw [HFIN.out]; rfl, HB.out⟩

def RNeeRel (w1 : World) (G : Gr) (f : Nat) (t3 _t4 _t5 : Value) (wr : World) : Prop :=
  ∃ k : Nat, t3 = .int .i64 (k : Nat) ∧ k ≤ G.length ∧ f = G.length - k ∧ needsF (idsG G) (G.drop k) = needsF (idsG G) G ∧ ∃ q, wr = w1.drewN q
def RNeeIn (w1 : World) (all l : List Bs) (f : Nat) (t5 : Value) (wr : World) : Prop :=
  ∃ j : Nat, t5 = .int .i64 (j : Nat) ∧ j ≤ l.length ∧ f = l.length - j ∧ needF all (l.take j) (l.drop j) = needF all [] l ∧ ∃ q, wr = w1.drewN q
theorem need_step (all l : List Bs) {j : Nat} {b : Bs} (h : l[j]? = some b) : needF all (l.take j) (l.drop j) = if b ∉ all then 8 else if b ∈ l.take j then 7 else needF all (l.take (j + 1)) (l.drop (j + 1)) := by
  obtain ⟨hj, e⟩ := List.getElem?_eq_some_iff.1 h
  rw [List.drop_eq_getElem_cons hj, e, needF, List.take_add_one, h]
  rfl
theorem needs_step (ns : List Nd) {k : Nat} (hk : k < ns.length) : needsF (idsG (grO ns)) ((grO ns).drop k) =
    if needF (idsG (grO ns)) [] (dts (ns.getD k default).needs) = 0 then needsF (idsG (grO ns)) ((grO ns).drop (k + 1)) else needF (idsG (grO ns)) [] (dts (ns.getD k default).needs) := by
  rw [grO_drop ns hk, needsF]
theorem below_drewN (w : World) (q : Nat) : Below w.heap.size w (w.drewN q) := ⟨rfl, rfl, rfl, Nat.le_refl _, fun _ _ => rfl⟩
theorem drewN_drewN (w : World) (p q : Nat) : (w.drewN p).drewN q = w.drewN (p + q) := by
  unfold World.drewN
  simp [Nat.add_assoc]

theorem below_ex {w wr : World} (h : ∃ q, wr = w.drewN q) : Below w.heap.size w wr := by
  obtain ⟨q, rfl⟩ := h
  exact below_drewN w q
theorem ex_trans {w w1 w2 : World} (h : ∃ q, w1 = w.drewN q) (k : ∃ q, w2 = w1.drewN q) : ∃ q, w2 = w.drewN q := by
  obtain ⟨q, rfl⟩ := h
  obtain ⟨r, rfl⟩ := k
  exact ⟨q + r, drewN_drewN w q r⟩
theorem ex_drew {w w1 : World} (h : ∃ q, w1 = w.drewN q) : ∃ q, w1.drew = w.drewN q := by
  obtain ⟨q, rfl⟩ := h
  exact ⟨q + 1, drewN_drewN w q 1⟩

set_option maxRecDepth 100000 in
set_option maxHeartbeats 1600000 in
theorem rneeds_any (nv : Value) (ns : List Nd) (hl : ns.length ≤ 9223372036854775807) (hnl : ∀ x ∈ ns, x.needs.length ≤ 9223372036854775807) (w : World) (h : NdAt w nv ns) : Calls Tryz.prog 65 #[nv] w fun e w' => e = .returned (.int .i64 (needsF (idsG (grO ns)) (grO ns) : Nat)) ∧ ∃ q, w' = w.drewN q := by
  obtain ⟨ao, cap, rfl⟩ := h.sl.form
  have H := Lib.hid h
  have HL := Lib.hid (grO_len ns)
  have HNN := Lib.hid hnl
  clear h hnl
  go_enter Tryz.func65, Tryz.ntmps65
  go_wp2_with fail
  go_loopg [3, 4, 5] ns.length (RNeeRel w (grO ns))
  case atStart => exact ⟨0, rfl, Nat.zero_le _, by rw [HL.out]; rfl, by simp, 0, rfl⟩
  case round =>
    obtain ⟨k, rfl, hk, hff, hid, hq⟩ := hrel
    rw [HL.out] at hk hff
    subst hff
    have HID := Lib.hid hid
    have HN := H.out.below (below_ex hq)
    have HQ := Lib.hid hq
    clear hid hq
    by_cases hlt : k < ns.length
    · obtain ⟨b, off, rfl, hbl, _, hc, hsx⟩ := HN.at2 hlt
      have hii : (k : Int) < (ns.length : Int) := by omega
      have HST := Lib.hid (needs_step ns hlt)
      have HLN := HNN.out (ns.getD k default) (by rw [List.getD, List.getElem?_eq_getElem hlt]; exact List.getElem_mem hlt)
      obtain ⟨xao, xcap, hxe⟩ := hsx.form
      rw [hxe] at hc hsx
      have HSX := Lib.hid hsx
      have HNH := Lib.hid HN
      clear hxe hsx HN
      generalize (ns.getD k default).needs = nl at *
      have HLL : Hid ((dts nl).length = nl.length) := by unfold Hid dts; rw [List.length_map]
      go_wp2_with fail
      go_loopg [5] nl.length (RNeeIn wr (idsG (grO ns)) (dts nl))
      rename_i wo
      case atStart => exact ⟨0, rfl, Nat.zero_le _, by rw [HLL.out]; rfl, by simp, 0, rfl⟩
      case round =>
        obtain ⟨j, rfl, hj, hff, hin, hq⟩ := hrel
        rw [HLL.out] at hj hff
        subst hff
        have HIN := Lib.hid hin
        have hb2 := below_ex hq
        have HQ2 : Hid (∃ q, wr = w.drewN q) := ex_trans HQ.out hq
        have HQ1 := Lib.hid hq
        clear hin hq
        by_cases hjl : j < nl.length
        · have hjj : (j : Int) < (nl.length : Int) := by omega
          have hs1 : StrsAt wr (.slice xao nl.length xcap) nl := HSX.out.below hb2
          obtain ⟨nb, noff, rfl, hnb, hnc⟩ := hs1.at_ hjl
          have hcap := hs1.lenle (by omega)
          have hjc : (j : Int) ≤ (xcap : Int) := by omega
          have HI := dts_at nl hjl
          have HNS := Lib.hid (need_step (idsG (grO ns)) _ HI)
          have HFN := find_neg (idsG (grO ns)) (nl.getD j ByteArray.empty).data.toList
          have HF := Lib.hid (find_any _ ns (nl.getD j ByteArray.empty) hl wr (H.out.below (below_ex HQ2.out)))
          have HA := Lib.hid (has_any _ _ (nl.getD j ByteArray.empty) (by rw [List.length_take]; omega) wr.drew ((StrsAt.takeR hs1 (Nat.le_of_lt hjl)).below (w1 := wr.drew) ⟨rfl, rfl, rfl, Nat.le_refl _, fun _ _ => rfl⟩))
          have HDT : dts (nl.take j) = (dts nl).take j := by unfold dts; rw [List.map_take]
          rw [HDT] at HA
          clear HI HDT hs1 hb2
          generalize nl.getD j ByteArray.empty = x at *
          generalize findF (idsG (grO ns)) x.data.toList = fv at *
          by_cases hm : x.data.toList ∈ idsG (grO ns)
          · rw [decide_eq_false (p := x.data.toList ∉ idsG (grO ns)) (by simp [hm])] at HFN
            by_cases hd : x.data.toList ∈ (dts nl).take j
            · have HFIN : Hid (needsF (idsG (grO ns)) (grO ns) = 7) := by
                have h1 : needF (idsG (grO ns)) [] (dts nl) = 7 := by rw [← HIN.out, HNS.out, if_neg (by simp [hm]), if_pos hd]
                unfold Hid
                rw [← HID.out, HST.out, h1, if_neg (by decide)]
              rw [decide_eq_true hd] at HA
              clear hm hd
              as_aux_lemma =>
              go_wp2_with fail
              refine HF.out.mono ?_
              rintro e w6 ⟨rfl, rfl⟩
              go_upto_region 10 with fail
              go_still_tail 7, (by kernel_rfl)
              change wpList _ _ _ _ _ (World.drew _)
              go_wp2_with fail
              refine HA.out.mono ?_
              rintro e w7 ⟨rfl, rfl⟩
              go_wp2_with fail
              go_ret
              exact ⟨by rw [HFIN.out]; rfl, ex_drew HQ2.out⟩
            · have HFIN : Hid (needF (idsG (grO ns)) ((dts nl).take (j + 1)) ((dts nl).drop (j + 1)) = needF (idsG (grO ns)) [] (dts nl)) := by
                unfold Hid; rw [← HIN.out, HNS.out, if_neg (by simp [hm]), if_neg hd]
              rw [decide_eq_false hd] at HA
              clear hm hd
              as_aux_lemma =>
              go_wp2_with fail
              refine HF.out.mono ?_
              rintro e w6 ⟨rfl, rfl⟩
              go_upto_region 10 with fail
              go_still_tail 7, (by kernel_rfl)
              change wpList _ _ _ _ _ (World.drew _)
              go_wp2_with fail
              refine HA.out.mono ?_
              rintro e w7 ⟨rfl, rfl⟩
              go_wp2_with fail
              go_roundg (nl.length - (j + 1))
              case measure => omega
              case rel => exact ⟨j + 1, by go_num, by rw [HLL.out]; omega, by rw [HLL.out], HFIN.out, ex_drew HQ1.out⟩
          · rw [decide_eq_true hm] at HFN
            have HFIN : Hid (needsF (idsG (grO ns)) (grO ns) = 8) := by
              have h1 : needF (idsG (grO ns)) [] (dts nl) = 8 := by rw [← HIN.out, HNS.out, if_pos hm]
              unfold Hid
              rw [← HID.out, HST.out, h1, if_neg (by decide)]
            clear hm
            as_aux_lemma =>
            go_wp2_with fail
            refine HF.out.mono ?_
            rintro e w6 ⟨rfl, rfl⟩
            go_wp2_with fail
            go_ret
            exact ⟨by rw [HFIN.out]; rfl, HQ2.out⟩
        · have he : j = nl.length := by omega
          subst he
          have HFIN : Hid (needsF (idsG (grO ns)) ((grO ns).drop (k + 1)) = needsF (idsG (grO ns)) (grO ns)) := by
            have h1 : needF (idsG (grO ns)) [] (dts nl) = 0 := by rw [← HIN.out, show (dts nl).drop nl.length = [] by rw [← HLL.out, List.drop_length], needF]
            unfold Hid
            rw [← HID.out, HST.out, h1, if_pos rfl]
          as_aux_lemma =>
          go_wp2_with fail
          go_roundg (ns.length - (k + 1))
          case measure => omega
          case rel => exact ⟨k + 1, by go_num, by rw [HL.out]; omega, by rw [HL.out], HFIN.out, HQ2.out⟩
    · have he : k = ns.length := by omega
      subst he
      have HFIN : Hid (needsF (idsG (grO ns)) (grO ns) = 0) := by
        unfold Hid
        rw [← HID.out, show (grO ns).drop ns.length = [] by rw [← HL.out, List.drop_length], needsF]
      as_aux_lemma =>
      go_wp2_with fail
      go_ret
      exact ⟨by rw [HFIN.out]; rfl, HQ.out⟩

set_option maxRecDepth 100000 in
set_option maxHeartbeats 1600000 in
theorem rformed_any (nv : Value) (ns : List Nd) (hl : ns.length ≤ 9223372036854775807) (hnl : ∀ x ∈ ns, x.needs.length ≤ 9223372036854775807) (w : World) (h : NdAt w nv ns) : Calls Tryz.prog 38 #[nv] w fun e w' => e = .returned (.int .i64 (formedF (grO ns) : Nat)) ∧ Below w.heap.size w w' := by
  have HI := Lib.hid (rids_any nv ns hl w h)
  have HN := fun W (hW : Below w.heap.size w W) => Lib.hid (rneeds_any nv ns hl hnl W (h.below hW))
  obtain ⟨ao, cap, rfl⟩ := h.sl.form
  have HL := Lib.hid (grO_len ns)
  have HF : Hid (formedF (grO ns) = if 1024 < ns.length then 15 else if idsF [] (grO ns) = 0 then needsF (idsG (grO ns)) (grO ns) else idsF [] (grO ns)) := by unfold Hid formedF; rw [HL.out]
  clear h hnl
  go_enter Tryz.func38, Tryz.ntmps38
  by_cases h1 : 1024 < ns.length
  · have h1i : (1024 : Int) < (ns.length : Int) := by omega
    rw [if_pos h1] at HF
    as_aux_lemma =>
    go_wp2_with fail
    go_ret
    exact ⟨by rw [HF.out]; rfl, Below.refl _ _⟩
  · have h1i : decide ((ns.length : Int) > (1024 : Int)) = false := by simp; omega
    rw [if_neg h1] at HF
    by_cases h2 : idsF [] (grO ns) = 0
    · rw [if_pos h2] at HF
      rw [h2] at HI
      clear h2 h1
      as_aux_lemma =>
      go_wp2_with fail
      refine HI.out.mono ?_
      rintro e w5 ⟨rfl, hb⟩
      have HN5 := HN w5 hb
      have HB := Lib.hid hb
      clear hb HN
      go_wp2_with fail
      refine HN5.out.mono ?_
      rintro e w6 ⟨rfl, q, rfl⟩
      go_wp2_with fail
      go_ret
      exact ⟨by rw [HF.out]; rfl, HB.out.trans ⟨rfl, rfl, rfl, Nat.le_refl _, fun _ _ => rfl⟩⟩
    · rw [if_neg h2] at HF
      have h2i : (((idsF [] (grO ns) : Nat) : Int) != 0) = true := by simp; exact h2
      rw [← HF.out] at h2i HI
      clear h2 h1 HF
      generalize formedF (grO ns) = fo at *
      as_aux_lemma =>
      go_wp2_with fail
      refine HI.out.mono ?_
      rintro e w5 ⟨rfl, hb⟩
      have HB := Lib.hid hb
      clear hb HN
      go_wp2_with fail
      go_ret
      exact ⟨rfl, HB.out⟩
end Go.Proofs.YtfegmmafcopbpaaGreatDoor
