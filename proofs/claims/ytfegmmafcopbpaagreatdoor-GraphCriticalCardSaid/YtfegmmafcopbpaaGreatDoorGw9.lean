/- The walk over Order of package graph. -/
import Derived.Test.YtfegmmafcopbpaaGreatDoorGw8
namespace Go.Proofs.YtfegmmafcopbpaaGreatDoor
open Go.RowKit

theorem grO_add (os : List Nd) (y : Nd) : grO (os ++ [y]) = grO os ++ [(y.id.data.toList, y.needs.map (·.data.toList))] := by simp [grO]

set_option maxRecDepth 100000 in
set_option maxHeartbeats 6400000 in
theorem gorder_any (nv : Value) (ns : List Nd) (m : Int) (hlen : 40 * ns.length ≤ 281474976710656) (w : World) (hN : NdAt w nv ns) (hm : w.cell? ⟨0, 0, none⟩ = some (.int .i64 m)) (hml : 0 < w.heap.size) :
    Calls Tryz.prog 13 #[nv] w (OrderPost (grO ns) w) := by
  have VA := Lib.hid (valid_any nv ns m hlen w hN hm hml)
  have CK : ∀ W, Below w.heap.size w W → Hid (Calls Tryz.prog 34 #[nv] W (CheckPost ns nv W)) := fun W hW => check_any nv ns m hlen W (hN.below hW) ((hW.cell (p := ⟨0, 0, none⟩) hml).trans hm) (Nat.lt_of_lt_of_le hml hW.size)
  have HN := Lib.hid hN
  obtain ⟨nao, ncap, rfl⟩ := hN.sl.form
  have HNL := Lib.hid (grO_len ns)
  obtain ⟨i48, hi48⟩ := Tryz.info48'
  have HI := Lib.hid hi48
  clear hN hm hi48
  go_enter Tryz.func13, Tryz.ntmps13
  go_wp2_with fail
  refine VA.out.mono ?_
  rintro e w1 ⟨rfl, hb⟩
  have HB := Lib.hid hb
  have CK1 := CK w1 hb
  clear hb VA CK
  by_cases hv : validF (grO ns) = 0
  · have hf : formedF (grO ns) = 0 := by
      unfold validF at hv
      by_cases h : formedF (grO ns) = 0
      · exact h
      · rw [if_pos h] at hv; exact absurd hv h
    have HV := Lib.hid hv
    rw [hv]
    clear hv
    go_wp2_with fail
    refine CK1.out.mono ?_
    rintro e w2 ⟨p, rfl, hb2, h0, _⟩
    obtain ⟨g, rfl, hnet⟩ := h0 hf
    have HB2 := Lib.hid (HB.out.trans (hb2.mono HB.out.size))
    have hS := formed_sound hf
    have HNN := Lib.hid (sound_needs hS)
    have OR := Lib.hid (order_any g _ ns w2 hnet hS)
    have hln := hS.len
    rw [grO_len] at hln
    have hol := (ordG_listed (grO ns)).len
    have HOLT := Lib.hid ((ordG_listed (grO ns)).lt)
    rw [grO_len] at hol
    have HOF : Hid ((ordG (grO ns)).map (fun i => (idA (grO ns) i, needA (grO ns) i)) = orderF (grO ns)) := rfl
    clear h0 hb2 hnet hS CK1 hf
    go_wp2_with fail
    refine OR.out.mono ?_
    rintro e w3 ⟨v, rfl, ho, hb3⟩
    obtain ⟨lao, lcap, rfl⟩ := ho.form
    have HO := Lib.hid ho
    have HB3 := Lib.hid (HB2.out.trans (hb3.mono HB2.out.size))
    have hs3 := HB3.out.size
    clear ho hb3 OR HB2 HB
    generalize ordG (grO ns) = L at *
    go_wp2_with fail
    go_loopg [23, 7] L.length (OrdRel w3 (grO ns) L)
    case atStart => exact ⟨0, [], rfl, Nat.zero_le _, rfl, rfl, rfl, World.ownsRow_nil _ _ _ _, (by intro x hx; cases hx), Below.refl _ _⟩
    case round =>
      obtain ⟨k, os, rfl, hk, rfl, rfl, hos, hrow, hst, hb⟩ := hrel
      obtain ⟨rao, rcap, rfl⟩ := ownsRow_form hrow
      have HROW := Lib.hid hrow
      have HST := Lib.hid hst
      have HBR := Lib.hid hb
      have HOS := Lib.hid hos
      have HBW := Lib.hid (HB3.out.trans (hb.mono hs3))
      clear hrow hst hb hos
      by_cases hlt : os.length < L.length
      · have hki : ((os.length : Nat) : Int) < (L.length : Int) := by omega
        have hia := (HO.out.below (w1 := wr) (HBR.out.mono (Nat.le_refl _))).at
        obtain ⟨lb, loff, rfl, hlbl, hlc⟩ := IntsAt.at1 hia hlt
        have hi := HOLT.out _ (getD_at hlt)
        rw [HNL.out] at hi
        have HTK : Hid (L.take (os.length + 1) = L.take os.length ++ [L.getD os.length 0]) := by unfold Hid; rw [List.take_add_one, List.getD, List.getElem?_eq_getElem hlt]; rfl
        have hii : ((L.getD os.length 0 : Nat) : Int) < (ns.length : Int) := by omega
        clear hia
        generalize L.getD os.length 0 = i at *
        obtain ⟨nb, noff, rfl, hnb, hc0, hc1, hsx⟩ := (HN.out.below HBW.out).at2 hi
        have HIX := Lib.hid (grO_id ns hi)
        have HNX := Lib.hid (grO_need ns hi)
        have HLN := Lib.hid (HNN.out (ns.getD i default) (by rw [List.getD, List.getElem?_eq_getElem hi]; exact List.getElem_mem hi))
        have CL : ∀ W, Below wr.heap.size wr W → Hid (Calls Tryz.prog 36 #[(ns.getD i default).nv] W fun e w' => ∃ r, e = .returned r ∧ w'.ownsRow W.heap.size 9 1 r (ns.getD i default).needs.length ((ns.getD i default).needs.map Value.string) ∧ Below W.heap.size W w') := fun W hW => clone_any _ _ HLN.out W (hsx.below hW)
        obtain ⟨xao, xcap, hxe⟩ := hsx.form
        rw [hxe] at hc1 CL
        clear hsx hxe
        generalize (ns.getD i default).id = x at *
        generalize (ns.getD i default).needs = nl at *
        have HSK : Hid (∀ W, Below wr.heap.size wr W → W.cell? ⟨nb, noff + i * 2, none⟩ = some (.string x) ∧ W.cell? ⟨nb, noff + i * 2 + 1, none⟩ = some (.slice xao nl.length xcap)) := fun W hW => ⟨(hW.cell (p := ⟨nb, noff + i * 2, none⟩) hnb).trans hc0, (hW.cell (p := ⟨nb, noff + i * 2 + 1, none⟩) hnb).trans hc1⟩
        have hs0 := HBR.out.size
        have hnb0 := (HN.out.lit hi).1
        go_upto_region 9 with fail
        go_region_held_law (fun W : World => W.cell? ⟨nb, noff + i * 2, none⟩ = some (.string x) ∧ W.cell? ⟨nb, noff + i * 2 + 1, none⟩ = some (.slice xao nl.length xcap)) (first | exact HSK.out _ (Below.refl wr.heap.size wr).drew | exact HSA.out | exact HSB.out | exact HSC.out)
          (first
            | (refine step_append_lies _ rfl (.tmp 27) (.tmp 40) 22 rfl w3.heap.size 48 i48 (.agg #[.string ByteArray.empty, .slice none 0 0]) 2 40 Tryz.underlying22 HI.out.1 HI.out.2.1 HI.out.2.2.1 HI.out.2.2.2 rfl (by decide) (.slice rao os.length rcap) os.length (os.flatMap Nd.cells) rfl HRA.out ⟨wa.heap.size, 0, none⟩ 1 1 [.string x, .slice ra2 nl.length rc2] rfl rfl (World.news_of_block (cs := #[.string x, .slice ra2 nl.length rc2]) (t := 48) (fr := (0, 0)) (by exact hp_new rfl)) (by intro u hu; simp at hu; rcases hu with rfl | rfl <;> rfl) (by decide) (by unfold maxLen; omega) (by omega) (by have := HBA.out.size; simp; omega) (wa.heap.size + 1) (by simp) ?_; intro g1 cap1 wb hown hgrow hat hlt2; have HSC := Lib.hid (And.intro ((hgrow.cell_far ⟨nb, noff + i * 2, none⟩ (by have := HBA.out.size; simp; omega) (fun e => by have := (World.ownsRow.lt HROW.out _ e.symm).1; simp at this; omega)).trans HSB.out.1) ((hgrow.cell_far ⟨nb, noff + i * 2 + 1, none⟩ (by have := HBA.out.size; simp; omega) (fun e => by have := (World.ownsRow.lt HROW.out _ e.symm).1; simp at this; omega)).trans HSB.out.2)))
            | (go_simp; go_at_call 36; refine (CL _ (Below.refl wr.heap.size wr).drew).out.mono ?_; rintro e wa ⟨rv, rfl, hrv, hba⟩; obtain ⟨ra2, rc2, rfl⟩ := ownsRow_form hrv; have hbaw := (Below.refl wr.heap.size wr).drew.trans hba; have HRV := Lib.hid (ownsRow_base hrv (show w3.heap.size ≤ _ from hs0)); have HRVK := Lib.hid (fun kk h => ((World.ownsRow.lt hrv) kk h).1); have HSA := Lib.hid (HSK.out wa hbaw); have HSB := Lib.hid (HSK.out _ (hbaw.alloc hbaw.size (.cells #[.string x, .slice ra2 nl.length rc2] 48 (0, 0)))); have HRA := Lib.hid (World.ownsRow.alloc (ownsRow_below HROW.out hbaw) (.cells #[.string x, .slice ra2 nl.length rc2] 48 (0, 0))); have HBA := Lib.hid hbaw; clear hrv hba hbaw))
        have HREL : Hid (OrdRel w3 (grO ns) L (L.length - (os.length + 1)) (.int .i64 ((os.length + 1 : Nat) : Int)) (.slice (some ⟨g1, 0, none⟩) (os.length + 1) cap1) wb) := by
          have hw : wa.heap.size = (wa.alloc (.cells #[.string x, .slice ra2 nl.length rc2] 48 (0, 0))).heap.size - 1 := by simp
          have hra : ∀ kk, (Value.slice rao os.length rcap).ownBlock = some kk → w3.heap.size ≤ kk ∧ kk < wr.heap.size := fun kk h => World.ownsRow.lt HROW.out kk h
          have hwa := HBA.out.size
          refine ⟨os.length + 1, os ++ [⟨x, .slice ra2 nl.length rc2, nl⟩], rfl, hlt, rfl, by simp, ?_, ?_, ?_, ?_⟩
          · rw [grO_add, HTK.out, List.map_append, ← HOS.out]
            simp only [List.map_cons, List.map_nil, HIX.out, HNX.out]
          · have := hown
            simp only [List.flatMap_append, List.length_append, List.length_cons, List.length_nil, List.flatMap_cons, List.flatMap_nil, List.append_nil]
            exact this
          · intro y hy
            rcases List.mem_append.1 hy with hy | hy
            · obtain ⟨h1, h2⟩ := HST.out y hy
              have hlt3 : ∀ kk, y.nv.ownBlock = some kk → kk < wr.heap.size := fun kk h => (World.ownsRow.lt h1 kk h).2
              refine ⟨(World.ownsRow.alloc (ownsRow_below h1 HBA.out) _).kept hgrow ?_, fun kk hk2 e => ?_⟩
              · cases ho : y.nv.ownBlock with
                | none => exact .inl rfl
                | some kk => exact .inr fun e => h2 kk ho e.symm
              · have e1 : g1 = kk := Option.some.inj e
                subst e1
                rcases hat with h | h
                · exact h2 g1 hk2 h
                · have := hlt3 g1 hk2; omega
            · simp at hy
              subst hy
              have hrv : ∀ kk, (Value.slice ra2 nl.length rc2).ownBlock = some kk → kk < wa.heap.size := fun kk h => (World.ownsRow.lt HRV.out kk h).2
              refine ⟨(World.ownsRow.alloc HRV.out _).kept hgrow ?_, fun kk hk2 e => ?_⟩
              · cases ho : (Value.slice ra2 nl.length rc2).ownBlock with
                | none => exact .inl rfl
                | some kk => exact .inr fun e => Nat.lt_irrefl kk (Nat.lt_of_lt_of_le (hra kk e.symm).2 (HRVK.out kk ho))
              · have e1 : g1 = kk := Option.some.inj e
                subst e1
                have h5 : wr.heap.size ≤ g1 := HRVK.out g1 hk2
                rcases hat with h | h
                · have := (hra g1 h).2; omega
                · have := hrv g1 hk2; omega
          · have h1 := HBR.out.trans (HBA.out.mono hs0)
            exact (h1.alloc h1.size _).grown hgrow (by have := h1.size; simp; omega) fun kk h => (hra kk h).1
        clear hown hgrow hat hlt2 HSA HSB HSC HRA HRV HRVK HBA CL
        as_aux_lemma =>
        go_wp2_with fail
        go_roundg (L.length - (os.length + 1))
        case measure => omega
        case rel => exact (by go_num : _ = Value.int .i64 ((os.length + 1 : Nat) : Int)) ▸ HREL.out
      · have hke : os.length = L.length := by omega
        have HFIN : Hid (NdAt wr (.slice rao os.length rcap) os ∧ grO os = orderF (grO ns)) := by
          refine ⟨⟨SlAt.of_row HROW.out nd_len (by omega), fun y hy => StrsAt.of_row (HST.out y hy).1⟩, ?_⟩
          rw [← HOF.out, HOS.out, hke, List.take_length]
        have hlt2 : decide (os.length < L.length) = false := by simp; omega
        clear hke hlt
        go_wp2_with fail
        go_ret2
        exact ⟨_, os, by rw [HV.out]; rfl, HFIN.out.1, fun _ => HFIN.out.2, fun h => absurd HV.out h, HBW.out⟩
  · have HV := Lib.hid hv
    obtain ⟨ve, hve⟩ : ∃ ve, validF (grO ns) = ve := ⟨_, rfl⟩
    have HVE := Lib.hid hve
    rw [hve] at hv ⊢
    have hvi : ((ve : Int) != 0) = true := by simp; exact hv
    clear hv hve
    go_wp2_with fail
    go_ret2
    exact ⟨_, [], by rw [HVE.out]; rfl, ⟨.inl ⟨_, _, rfl, rfl⟩, by intro x hx; cases hx⟩, fun h => absurd h HV.out, fun _ => rfl, HB.out⟩
end Go.Proofs.YtfegmmafcopbpaaGreatDoor
