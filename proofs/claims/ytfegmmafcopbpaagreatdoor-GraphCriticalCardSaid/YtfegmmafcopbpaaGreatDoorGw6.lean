/- The walk over order of package graph. -/
import Derived.Test.YtfegmmafcopbpaaGreatDoorGw5
import Derived.Deep.AppendLies
namespace Go.Proofs.YtfegmmafcopbpaaGreatDoor
open Go.RowKit

theorem IRow.some {w : World} {base : Nat} {v : Value} {l : List Nat} (h : IRow w base v l) (hl : l ≠ []) : ∃ b cap, v = .slice (some ⟨b, 0, none⟩) l.length cap ∧ base ≤ b ∧ b < w.heap.size :=
  World.ownsRow.form h (List.length_pos_iff.2 hl)

theorem sizes_of {ns : List Nd} (hS : Sound (grO ns)) : ∀ x ∈ ns, x.id.size ≤ 9223372036854775807 := by
  intro x hx
  have := hS.parts (x.id.data.toList, x.needs.map (·.data.toList)) (List.mem_map.2 ⟨x, hx, rfl⟩)
  unfold partsF at this
  rw [Lib.size_eq]
  split at this
  · cases this
  · rename_i h
    have h2 : ¬ 512 < x.id.data.toList.length := h
    omega

set_option maxRecDepth 100000 in
set_option maxHeartbeats 6400000 in
theorem order_any (g : Nat) (nv : Value) (ns : List Nd) (w : World) (hnet : NetAt w g nv ns) (hS : Sound (grO ns)) :
    Calls Tryz.prog 35 #[.pointer (some ⟨g, 0, none⟩)] w fun e w' => ∃ v, e = .returned v ∧ IRow w' w.heap.size v (ordG (grO ns)) ∧ Below w.heap.size w w' := by
  obtain ⟨bm, av, bv, hg, hN, _, ⟨bA, VA, rfl, hrA, hvA⟩, ⟨bB, VB, rfl, hrB, hvB⟩⟩ := hnet
  obtain ⟨nao, ncap, rfl⟩ := hN.sl.form
  have hgl := (Array.getElem?_eq_some_iff.1 hg).1
  have hlen := hS.len
  rw [grO_len] at hlen
  have HNL := Lib.hid (grO_len ns)
  have HS := Lib.hid hS
  have HSZ := Lib.hid (sizes_of hS)
  have HAL := Lib.hid (ab_len hS)
  have HBL := Lib.hid (be_len hS)
  have HW : Hid (∀ W, Below w.heap.size w W → W.cell? ⟨g, 0, none⟩ = some (.slice nao ns.length ncap) ∧ W.cell? ⟨g, 2, none⟩ = some (.slice (some ⟨bA, 0, none⟩) ns.length ns.length) ∧ W.cell? ⟨g, 3, none⟩ = some (.slice (some ⟨bB, 0, none⟩) ns.length ns.length) ∧ NdAt W (.slice nao ns.length ncap) ns ∧
      W.rowIs bA 40 ns.length VA ∧ W.rowIs bB 40 ns.length VB ∧ (∀ r, r < ns.length → IntsAt W (VA r) (ab (grO ns) r)) ∧ (∀ r, r < ns.length → IntsAt W (VB r) (be (grO ns) r))) := fun W hW => by
    have hgb := (hW.block g hgl).trans hg
    refine ⟨by rw [cell_of_blk hgb]; rfl, by rw [cell_of_blk hgb]; rfl, by rw [cell_of_blk hgb]; rfl, hN.below hW, hrA.of_block (hW.block _ hrA.lt), hrB.of_block (hW.block _ hrB.lt), fun r hr => SlAt.below (hvA r hr) hW, fun r hr => SlAt.below (hvB r hr) hW⟩
  obtain ⟨i3, hi3⟩ := Tryz.info3'
  have HI := Lib.hid hi3
  have hmk := run_make_row' (P := Tryz.prog) 40 3 (.int .i64 0) 8 Tryz.underlying40 Tryz.info3 rfl .i64 .i64 ns.length (by omega) (by omega)
  obtain ⟨hg0, _, _, _⟩ := HW.out w (Below.refl _ _)
  clear hg hN hrA hvA hrB hvB hi3 hS
  go_enter Tryz.func35, Tryz.ntmps35
  go_upto_region 3 with fail
  have HB0 := Lib.hid ((Below.refl w.heap.size w).alloc (Nat.le_refl _) (.cells (madeCells #[.int .i64 0] ns.length) 3))
  have HR0 := Lib.hid (World.rowIs_made w (.int .i64 0) ns.length 3)
  have hg1 := (HW.out _ HB0.out).1
  clear hmk hg0
  generalize w.alloc (.cells (madeCells #[.int .i64 0] ns.length) 3) = w1 at *
  go_upto_block 0 with fail
  go_cut [4] (fun s4 wx => Below w.heap.size w wx ∧ wx.rowIs w.heap.size 3 ns.length (oV (leftG (grO ns) [])) ∧ IRow wx (w.heap.size + 1) s4 (free0 (grO ns) ns.length))
  case first =>
    go_wp2_with fail
    go_loopg [21, 4] ns.length (OrdIni w (grO ns) ns.length)
    case atStart => exact ⟨0, rfl, Nat.zero_le _, rfl, HB0.out, HR0.out.congr fun k _ => rfl, IRow.nil _ _⟩
    case round =>
      obtain ⟨i, rfl, hi, rfl, hb, hr, hf⟩ := hrel
      obtain ⟨fao, fcap, rfl⟩ := hf.form
      have HB := Lib.hid hb
      have HR := Lib.hid hr
      have HF := Lib.hid hf
      clear hb hr hf
      by_cases hilt : i < ns.length
      · have hii : (i : Int) < (ns.length : Int) := by omega
        obtain ⟨hg0, hg2, _, _, hrA, _, hvA, _⟩ := HW.out wr HB.out
        have hca := hrA.cell hilt
        obtain ⟨xao, xcap, hxe⟩ := (hvA i hilt).form
        rw [hxe] at hca
        have hcl : wr.cell? ⟨w.heap.size, i, none⟩ = some (intV 0) := by
          have := HR.out.cell hilt
          rw [this]
          show some (intV (if i < i then _ else 0)) = _
          rw [if_neg (Nat.lt_irrefl i)]
        have hfr := HR.out.frozen i
        have hal := HAL.out i
        have HF0 := Lib.hid (free0_succ (grO ns) i)
        have hfl := free0_len (grO ns) i
        clear hrA hvA hxe
        have HR5 : Hid ((wr.setCell ⟨w.heap.size, i, none⟩ (intV (ab (grO ns) i).length)).rowIs w.heap.size 3 ns.length (oV fun k => if k < i + 1 then (ab (grO ns) k).length else 0)) := (HR.out.set i (intV (ab (grO ns) i).length)).congr fun k _ => by
          show (if k = i then intV (ab (grO ns) i).length else intV (if k < i then _ else 0)) = intV (if k < i + 1 then _ else 0)
          by_cases e : k = i
          · rw [if_pos e, e, if_pos (Nat.lt_succ_self i)]
          · rw [if_neg e]
            by_cases e2 : k < i
            · rw [if_pos e2, if_pos (by omega)]
            · rw [if_neg e2, if_neg (by omega)]
        have HB5 : Hid (Below w.heap.size w (wr.setCell ⟨w.heap.size, i, none⟩ (intV (ab (grO ns) i).length))) := ((Kp.of_below (X := fun _ => False) HB.out).setCell w.heap.size i _ (.inl (Nat.le_refl _))).below (Nat.le_refl _) (fun _ _ => id)
        have HF5 : Hid (IRow (wr.setCell ⟨w.heap.size, i, none⟩ (intV (ab (grO ns) i).length)) (w.heap.size + 1) (.slice fao (free0 (grO ns) i).length fcap) (free0 (grO ns) i)) := HF.out.kp ((Kp.refl wr.heap.size (· = w.heap.size) wr).setCell _ i _ (.inr rfl)) fun k hk => ⟨(HF.out.lt k hk).2, by have := (HF.out.lt k hk).1; omega⟩
        have hc5 : (wr.setCell ⟨w.heap.size, i, none⟩ (intV (ab (grO ns) i).length)).cell? ⟨w.heap.size, i, none⟩ = some (intV (ab (grO ns) i).length) := by
          have := HR5.out.cell hilt
          rw [this]
          show some (intV (if i < i + 1 then _ else 0)) = _
          rw [if_pos (Nat.lt_succ_self i)]
        go_upto_region 7 with fail
        clear hcl hfr hca hg0 hg2 HR HB HF
        generalize wr.setCell ⟨w.heap.size, i, none⟩ (intV (ab (grO ns) i).length) = w5 at *
        by_cases h0 : (ab (grO ns) i).length = 0
        · rw [h0] at hc5
          have HF1 : Hid (free0 (grO ns) (i + 1) = free0 (grO ns) i ++ [i]) := by unfold Hid; rw [HF0.out, if_pos h0]
          clear h0 HF0
          as_aux_lemma =>
          go_wp2_with (at_builtin; refine wpList_append2 rfl _ _ 40 rfl (w.heap.size + 1) 3 i3 (.int .i64 0) 1 8 Tryz.underlying40 HI.out rfl (by decide) _ _ _ rfl (World.ownsRow.alloc HF5.out _) ⟨w5.heap.size, 0, none⟩ 1 1 [intV i] rfl rfl (cells_newAt rfl _ 3 (0, 0)) rfl (by unfold maxLen; omega) (by omega) (by have := HB5.out.size; simp; omega) ?_)
          intro v' w6 hown hgrow hwh
          obtain ⟨ao', cap', rfl⟩ := ownsRow_form hown
          have hsz5 := HB5.out.size
          have HB6 := Lib.hid ((HB5.out.alloc HB5.out.size (.cells [intV i].toArray 3 (0, 0))).grown hgrow (by simp; omega) fun k hk => by have := (HF5.out.lt k hk).1; omega)
          have HR6 : Hid (w6.rowIs w.heap.size 3 ns.length (oV fun k => if k < i + 1 then (ab (grO ns) k).length else 0)) := (HR5.out.alloc _).of_block (hgrow.block _ (by have := HR5.out.lt; simp; omega) fun e => by have := (HF5.out.lt _ e.symm).1; omega)
          have HF6 : Hid (IRow w6 (w.heap.size + 1) (.slice ao' ((free0 (grO ns) i).length + 1) cap') (free0 (grO ns) (i + 1))) := by
            unfold Hid; rw [HF1.out]; exact IRow.add hown
          clear hown hgrow hwh
          go_wp2_with fail
          go_roundg (ns.length - (i + 1))
          case measure => omega
          case rel => exact ⟨i + 1, by go_num, by omega, rfl, HB6.out, HR6.out, HF6.out⟩
        · have hne : (((ab (grO ns) i).length : Int) == 0) = false := by rw [beq_eq_false_iff_ne]; omega
          have HF1 : Hid (free0 (grO ns) (i + 1) = free0 (grO ns) i) := by unfold Hid; rw [HF0.out, if_neg h0]
          clear h0 HF0
          as_aux_lemma =>
          go_wp2_with fail
          go_roundg (ns.length - (i + 1))
          case measure => omega
          case rel => exact ⟨i + 1, by go_num, by omega, rfl, HB5.out, HR5.out, by rw [HF1.out]; exact HF5.out⟩
      · have hie : i = ns.length := by omega
        subst hie
        go_wp2_with fail
        go_meet
        exact ⟨HB.out, HR.out.congr fun k hk => by show intV (if k < ns.length then _ else 0) = intV _; rw [if_pos hk, leftG_nil], HF.out⟩
  case rest =>
    obtain ⟨hb1, hr1, hf1⟩ := hcut
    generalize wc = w2 at *
    have HB1 := Lib.hid hb1
    have HR1 := Lib.hid hr1
    have HF1 := Lib.hid hf1
    clear hb1 hr1 hf1 hg1 HB0 HR0
    go_wp2_with fail
    go_loopg [4, 5] ns.length (OrdOut w (grO ns) ns.length)
    case atStart =>
      have h0 := free0_end (G := grO ns)
      rw [HNL.out] at h0
      exact ⟨free0 (grO ns) ns.length, [], rfl, Listed.nil _, by unfold ordG; rw [HNL.out]; rfl, h0.1, h0.2, HB1.out, HR1.out, HF1.out, IRow.nil _ _, fun k _ h => by cases h⟩
    case round =>
      obtain ⟨free, out, rfl, hL, hord, hnd, hfr, hb, hr, hf, ho, hap⟩ := hrel
      obtain ⟨oao, ocap, rfl⟩ := ho.form
      have HB := Lib.hid hb
      have HR := Lib.hid hr
      have HF := Lib.hid hf
      have HO := Lib.hid ho
      have HAP := Lib.hid hap
      have HL := Lib.hid hL
      have HORD := Lib.hid hord
      have HND := Lib.hid hnd
      have HFR := Lib.hid hfr
      clear hb hr hf ho hap hL hord hnd hfr
      by_cases h0 : free = []
      · have hfe : freeG (grO ns) out = [] := List.eq_nil_iff_forall_not_mem.2 fun k hk => by
          have := (HFR.out k).2 hk
          rw [h0] at this
          cases this
        have HE : Hid (ordG (grO ns) = out) := by unfold Hid; rw [← HORD.out]; exact ordTo_end hfe _
        obtain ⟨fao, fcap, rfl⟩ := HF.out.form
        have hl0 : free.length = 0 := by rw [h0]; rfl
        clear h0 hfe
        rw [hl0]
        go_wp2_with fail
        go_ret
        exact ⟨_, rfl, by rw [HE.out]; exact HO.out.base (Nat.le_succ _), HB.out⟩
      · obtain ⟨fb, fcap, rfl, hfb, hfbl⟩ := HF.out.some h0
        have hpos : (0 : Int) < (free.length : Int) := by have := List.length_pos_iff.2 h0; omega
        obtain ⟨i, hi1, hi2, _⟩ := firstF_some (idA (grO ns)) h0
        have hfl : ∀ k ∈ free, k < ns.length := fun k hk => by
          have := (mem_freeG.1 ((HFR.out k).1 hk)).1
          rwa [HNL.out] at this
        have hi : i < ns.length := hfl i hi2
        have HIF : Hid (i ∈ freeG (grO ns) out) := (HFR.out i).1 hi2
        have HFI : Hid (firstF (idA (grO ns)) (freeG (grO ns) out) = some i) := by
          unfold Hid
          rw [← hi1]
          exact (firstF_alike HFR.out fun x hx y hy e => idA_inj HS.out.nodup (by rw [HNL.out]; exact hfl x hx) (by rw [HNL.out]; exact hfl y hy) e).symm
        have hfln : free.length ≤ 1024 := by
          have := nodup_le (List.range ns.length) free HND.out (fun k hk => List.mem_range.2 (hfl k hk))
          rw [List.length_range] at this
          omega
        obtain ⟨hg0, _, _, hN, _⟩ := HW.out wr HB.out
        have hglr : g < wr.heap.size := Nat.lt_of_lt_of_le hgl HB.out.size
        have FA := first_any g _ _ ns free hfl HSZ.out (by omega) wr hN hg0 hglr HF.out.at
        rw [hi1] at FA
        simp only [optI] at FA
        have FA := Lib.hid FA
        have HI2 := Lib.hid hi2
        have hol := HL.out.len
        rw [HNL.out] at hol
        clear hg0 hN hi1 hi2
        go_wp2_with fail
        refine FA.out.mono ?_
        rintro e w3 ⟨rfl, hu3⟩
        have HU3 := Lib.hid hu3.b
        have hs3 := hu3.b.size
        clear hu3 FA
        go_upto_region 12 with fail
        have hc4 : (w3.alloc (.cells #[intV i] 3 (0, 0))).cell? ⟨w3.heap.size, 0, none⟩ = some (intV i) := by rw [cell_of_blk (hp_new rfl)]; rfl
        have HB4 : Hid (Below wr.heap.size wr (w3.alloc (.cells #[intV i] 3 (0, 0)))) := HU3.out.alloc hs3 _
        have hs4 : (w3.alloc (.cells #[intV i] 3 (0, 0))).heap.size = w3.heap.size + 1 := by simp
        have HS4 := Lib.hid hs4
        clear hs4
        generalize hcb : w3.heap.size = cb at *
        have HCB := Lib.hid hcb
        clear hcb
        generalize w3.alloc (.cells #[intV i] 3 (0, 0)) = w4 at *
        have HF4 := Lib.hid (HF.out.below HB4.out)
        have HO4 := Lib.hid (HO.out.below HB4.out)
        have HR4 := Lib.hid (HR.out.of_block (HB4.out.block _ HR.out.lt))
        have HBB4 := Lib.hid (HB.out.trans (HB4.out.mono HB.out.size))
        have hfbc : cb ≠ fb := by omega
        go_wp2_with fail
        refine (del_any i cb fb fcap free (w.heap.size + 1) w4 hc4 hfbc (by omega) HF4.out).mono ?_
        rintro e w5 ⟨rfl, hf5, hk5⟩
        have HOB : Hid (∀ k, (Value.slice oao out.length ocap).ownBlock = some k → w.heap.size + 1 ≤ k ∧ k < wr.heap.size ∧ k ≠ fb) := fun k hk => ⟨(HO.out.lt k hk).1, (HO.out.lt k hk).2, fun e => HAP.out fb rfl (e ▸ hk)⟩
        have hws := HB.out.size
        have hcl4 : cb < w4.heap.size := by have := HS4.out; omega
        have HF5 := Lib.hid hf5
        have HO5 : Hid (IRow w5 (w.heap.size + 1) (.slice oao out.length ocap) out) := HO4.out.kp (hk5 wr.heap.size) fun k hk => ⟨(HOB.out k hk).2.1, (HOB.out k hk).2.2⟩
        have HR5 : Hid (w5.rowIs w.heap.size 3 ns.length (oV (leftG (grO ns) out))) := HR4.out.of_block ((hk5 (w.heap.size + 1)).block _ (Nat.lt_succ_self _) (by omega))
        have HB5 : Hid (Below w.heap.size w w5) := HBB4.out.trans ((hk5 w.heap.size).below (Nat.le_refl _) fun k hk e => by omega)
        have hc5 : w5.cell? ⟨cb, 0, none⟩ = some (intV i) := (World.cell?_of_block (a := ⟨cb, 0, none⟩) ((hk5 (cb + 1)).block cb (Nat.lt_succ_self _) hfbc)).trans hc4
        have hs5 : w4.heap.size ≤ w5.heap.size := (hk5 0).size
        clear hf5 hk5 hc4 HF4 HO4 HR4 HBB4 HB4 HF HO HR HAP HU3
        have hlf := List.length_filter_le (fun x => !decide (x = i)) free
        generalize hff : (free.filter fun x => !decide (x = i)) = ff at *
        have HFF := Lib.hid hff
        clear hff
        go_wp2_with (at_builtin; refine wpList_append2 rfl _ _ 40 rfl (w.heap.size + 1) 3 i3 (.int .i64 0) 1 8 Tryz.underlying40 HI.out rfl (by decide) _ _ _ rfl (World.ownsRow.alloc HO5.out _) ⟨w5.heap.size, 0, none⟩ 1 1 [intV i] rfl rfl (cells_newAt rfl _ 3 (0, 0)) rfl (by unfold maxLen; omega) (by omega) (by have := HB5.out.size; simp; omega) ?_)
        intro v' w6 hown hgrow hwh
        obtain ⟨ao', cap', rfl⟩ := ownsRow_form hown
        have hsz5 := HB5.out.size
        have HB6 := Lib.hid ((HB5.out.alloc HB5.out.size (.cells [intV i].toArray 3 (0, 0))).grown hgrow (by simp; omega) fun k hk => by have := (HOB.out k hk).1; omega)
        have HR6 : Hid (w6.rowIs w.heap.size 3 ns.length (oV (leftG (grO ns) out))) := (HR5.out.alloc _).of_block (hgrow.block _ (by have := HR5.out.lt; simp; omega) fun e => by have := (HOB.out _ e.symm).1; omega)
        have HO6 : Hid (IRow w6 (w.heap.size + 1) (.slice ao' (out.length + 1) cap') (out ++ [i])) := IRow.add hown
        have HF6 : Hid (IRow w6 (w.heap.size + 1) (.slice (some ⟨fb, 0, none⟩) ff.length fcap) ff) := by
          exact (World.ownsRow.alloc HF5.out (.cells [intV i].toArray 3 (0, 0))).kept hgrow (.inr fun e => (HOB.out fb e.symm).2.2 rfl)
        have HA6 : Hid (∀ k, (Value.slice (some ⟨fb, 0, none⟩) ff.length fcap).ownBlock = some k → (Value.slice ao' (out.length + 1) cap').ownBlock ≠ some k) := fun k hk e => by
          have h1 : fb = k := by injection hk
          subst h1
          rcases hwh with h | h
          · rw [h] at e; exact (HOB.out _ e).2.2 rfl
          · rw [h] at e
            have h2 := Option.some.inj e
            omega
        have hc6 : w6.cell? ⟨cb, 0, none⟩ = some (intV i) := (World.cell?_of_block (a := ⟨cb, 0, none⟩) (hgrow.block cb (by simp; omega) fun e => by have := (HOB.out _ e.symm).2.1; omega)).trans ((World.cell?_of_block (a := ⟨cb, 0, none⟩) (hp_old (k := cb) (by omega))).trans hc5)
        clear hown hgrow hwh hc5 HF5 HO5 HR5 HB5
        obtain ⟨_, _, hg3, _, _, hrB, _, hvB⟩ := HW.out w6 HB6.out
        have hcb2 := hrB.cell hi
        obtain ⟨bao, bcap, hbe⟩ := (hvB i hi).form
        rw [hbe] at hcb2
        have hii : (i : Int) < (ns.length : Int) := by omega
        have HBE := Lib.hid hbe
        clear hrB hvB hbe
        go_upto_region 14 with fail
        go_quiet (fail)
        rename_i nq
        have HB7 : Hid (Below w.heap.size w (w6.drewN nq)) := ((Kp.of_below (X := fun _ => False) HB6.out).drewN nq).below (Nat.le_refl _) (fun _ _ => id)
        have HR7 : Hid ((w6.drewN nq).rowIs w.heap.size 3 ns.length (oV (leftG (grO ns) out))) := HR6.out.of_block rfl
        have HO7 : Hid (IRow (w6.drewN nq) (w.heap.size + 1) (.slice ao' (out.length + 1) cap') (out ++ [i])) := HO6.out
        have HF7 : Hid (IRow (w6.drewN nq) (w.heap.size + 1) (.slice (some ⟨fb, 0, none⟩) ff.length fcap) ff) := HF6.out
        clear HB6 HR6 HO6 HF6 hc6 hg3 hcb2
        generalize w6.drewN nq = w7 at *
        have HNI : Hid (i ∉ out) := (mem_freeG.1 HIF.out).2.1
        have HFL := Lib.hid (freeJ_len HND.out HFR.out i)
        have hbl := HBL.out i
        go_wp2_with fail
        go_loopg [66, 4] (be (grO ns) i).length (OrdIn w (grO ns) ns.length i out free (.slice ao' (out.length + 1) cap'))
        case atStart =>
          refine ⟨0, rfl, Nat.zero_le _, rfl, HB7.out, HR7.out.congr fun k _ => ?_, ?_, HO7.out, HA6.out⟩
          · show intV _ = intV _
            unfold leftJ
            simp
          · unfold freeJ
            rw [HFF.out]
            simpa using HF7.out
        case round =>
          obtain ⟨j, rfl, hj, hjf, hb, hr, hf, ho, hap⟩ := hrel
          subst hjf
          obtain ⟨jao, jcap, rfl⟩ := hf.form
          have HB := Lib.hid hb
          have HR := Lib.hid hr
          have HF := Lib.hid hf
          have HO := Lib.hid ho
          have HAP := Lib.hid hap
          clear hb hr hf ho hap
          by_cases hjlt : j < (be (grO ns) i).length
          · have hjj : (j : Int) < ((be (grO ns) i).length : Int) := by omega
            have hbr := (HW.out wr HB.out).2.2.2.2.2.2.2 i hi
            rw [HBE.out] at hbr
            obtain ⟨xb, xoff, rfl, hxb, hxc⟩ := hbr.at1 hjlt
            have hk : (be (grO ns) i).getD j 0 < ns.length := by have := be_lt (getD_at hjlt); rwa [HNL.out] at this
            have hki : (((be (grO ns) i).getD j 0 : Nat) : Int) < (ns.length : Int) := by omega
            have hat := leftJ_at HS.out HNI.out hjlt
            have HSTEP := Lib.hid (leftJ_step hjlt hat)
            have HFST := Lib.hid (freeJ_step (G := grO ns) (out := out) (free := free) hjlt)
            have hck0 := HR.out.cell hk
            have hck : wr.cell? ⟨w.heap.size, (be (grO ns) i).getD j 0, none⟩ = some (intV (leftG (grO ns) (out ++ [i]) ((be (grO ns) i).getD j 0) + 1)) := by rw [hck0]; show some (intV (leftJ _ _ _ _ _)) = _; rw [hat]
            have hfrz := HR.out.frozen ((be (grO ns) i).getD j 0)
            have hxl : leftG (grO ns) (out ++ [i]) ((be (grO ns) i).getD j 0) ≤ 1024 := by
              have h1 := HAL.out ((be (grO ns) i).getD j 0)
              have h2 := List.length_filter_le (fun m => !decide (m ∈ out ++ [i])) (ab (grO ns) ((be (grO ns) i).getD j 0))
              unfold leftG
              omega
            have hfl2 := HFL.out j
            rw [HNL.out] at hfl2
            have HFJ1 : Hid (∀ wx : World, wx.rowIs w.heap.size 3 ns.length (fun k => if k = (be (grO ns) i).getD j 0 then intV (leftG (grO ns) (out ++ [i]) ((be (grO ns) i).getD j 0)) else oV (leftJ (grO ns) out i j) k) → wx.rowIs w.heap.size 3 ns.length (oV (leftJ (grO ns) out i (j + 1)))) := fun wx h => h.congr fun k _ => by
              show _ = intV (leftJ _ _ _ _ _)
              rw [HSTEP.out k]
              by_cases e : k = (be (grO ns) i).getD j 0
              · rw [if_pos e, if_pos e]
              · rw [if_neg e, if_neg e]
            clear hat hbr HSTEP hck0
            generalize (be (grO ns) i).getD j 0 = k at *
            generalize leftG (grO ns) (out ++ [i]) k = x at *
            have q1 : IntKind.i64.wrap (((x + 1 : Nat) : Int) - 1) = ((x : Nat) : Int) := by rw [show (((x + 1 : Nat) : Int) - 1) = ((x : Nat) : Int) by omega]; exact IntWalk.i64_in _ (by omega)
            have HR5 := Lib.hid (HFJ1.out _ (HR.out.set k (intV x)))
            have HB5 : Hid (Below w.heap.size w (wr.setCell ⟨w.heap.size, k, none⟩ (intV x))) := ((Kp.of_below (X := fun _ => False) HB.out).setCell w.heap.size k _ (.inl (Nat.le_refl _))).below (Nat.le_refl _) (fun _ _ => id)
            have HF5 : Hid (IRow (wr.setCell ⟨w.heap.size, k, none⟩ (intV x)) (w.heap.size + 1) (.slice jao (freeJ (grO ns) out free i j).length jcap) (freeJ (grO ns) out free i j)) := HF.out.kp ((Kp.refl wr.heap.size (· = w.heap.size) wr).setCell _ k _ (.inr rfl)) fun b hb => ⟨(HF.out.lt b hb).2, by have := (HF.out.lt b hb).1; omega⟩
            have HO5 : Hid (IRow (wr.setCell ⟨w.heap.size, k, none⟩ (intV x)) (w.heap.size + 1) (.slice ao' (out.length + 1) cap') (out ++ [i])) := HO.out.kp ((Kp.refl wr.heap.size (· = w.heap.size) wr).setCell _ k _ (.inr rfl)) fun b hb => ⟨(HO.out.lt b hb).2, by have := (HO.out.lt b hb).1; omega⟩
            have hc5 : (wr.setCell ⟨w.heap.size, k, none⟩ (intV x)).cell? ⟨w.heap.size, k, none⟩ = some (intV x) := by
              rw [(HR.out.set k (intV x)).cell hk, if_pos rfl]
            go_upto_region 18 with fail
            clear hck hfrz hxc q1 HB HR HF HO HFJ1
            generalize wr.setCell ⟨w.heap.size, k, none⟩ (intV x) = w8 at *
            by_cases hx : x = 0
            · subst hx
              have HF1 : Hid (freeJ (grO ns) out free i (j + 1) = freeJ (grO ns) out free i j ++ [k]) := by unfold Hid; rw [HFST.out, if_pos rfl]
              clear HFST
              as_aux_lemma =>
              go_wp2_with (at_builtin; refine wpList_append2 rfl _ _ 40 rfl (w.heap.size + 1) 3 i3 (.int .i64 0) 1 8 Tryz.underlying40 HI.out rfl (by decide) _ _ _ rfl (World.ownsRow.alloc HF5.out _) ⟨w8.heap.size, 0, none⟩ 1 1 [intV k] rfl rfl (cells_newAt rfl _ 3 (0, 0)) rfl (by unfold maxLen; omega) (by omega) (by have := HB5.out.size; have := HR5.out.lt; simp; omega) ?_)
              intro v' w9 hown hgrow hwh
              obtain ⟨ao2, cap2, rfl⟩ := ownsRow_form hown
              have hsz5 := HB5.out.size
              have HB9 := Lib.hid ((HB5.out.alloc HB5.out.size (.cells [intV k].toArray 3 (0, 0))).grown hgrow (by simp; omega) fun b hb => by have := (HF5.out.lt b hb).1; omega)
              have HR9 : Hid (w9.rowIs w.heap.size 3 ns.length (oV (leftJ (grO ns) out i (j + 1)))) := (HR5.out.alloc _).of_block (hgrow.block _ (by have := HR5.out.lt; simp; omega) fun e => by have := (HF5.out.lt _ e.symm).1; omega)
              have HF9 : Hid (IRow w9 (w.heap.size + 1) (.slice ao2 ((freeJ (grO ns) out free i j).length + 1) cap2) (freeJ (grO ns) out free i (j + 1))) := by unfold Hid; rw [HF1.out]; exact IRow.add hown
              have HO9 : Hid (IRow w9 (w.heap.size + 1) (.slice ao' (out.length + 1) cap') (out ++ [i])) := by
                refine (World.ownsRow.alloc HO5.out (.cells [intV k].toArray 3 (0, 0))).kept hgrow ?_
                cases ho : (Value.slice ao' (out.length + 1) cap').ownBlock with
                | none => exact .inl rfl
                | some b => exact .inr fun e => HAP.out b e.symm ho
              have HA9 : Hid (∀ b, (Value.slice ao2 ((freeJ (grO ns) out free i j).length + 1) cap2).ownBlock = some b → (Value.slice ao' (out.length + 1) cap').ownBlock ≠ some b) := fun b hb e => by
                rcases hwh with h | h
                · rw [h] at hb; exact HAP.out b hb e
                · rw [h] at hb
                  have h2 := Option.some.inj hb
                  have h3 := (HO5.out.lt b e).2
                  omega
              clear hown hgrow hwh
              go_wp2_with fail
              go_roundg ((be (grO ns) i).length - (j + 1))
              case measure => omega
              case rel => exact ⟨j + 1, by go_num, by omega, rfl, HB9.out, HR9.out, HF9.out, HO9.out, HA9.out⟩
            · have hne : (((x : Nat) : Int) == 0) = false := by rw [beq_eq_false_iff_ne]; omega
              have HF1 : Hid (freeJ (grO ns) out free i (j + 1) = freeJ (grO ns) out free i j) := by unfold Hid; rw [HFST.out, if_neg hx]
              clear HFST
              as_aux_lemma =>
              go_wp2_with fail
              go_roundg ((be (grO ns) i).length - (j + 1))
              case measure => omega
              case rel => exact ⟨j + 1, by go_num, by omega, rfl, HB5.out, HR5.out, by rw [HF1.out]; exact HF5.out, HO5.out, HAP.out⟩
          · have hje : j = (be (grO ns) i).length := by omega
            subst hje
            have HE := Lib.hid (freeJ_end HS.out HL.out HND.out HFR.out HIF.out)
            have HL2 := Lib.hid (HL.out.add HIF.out)
            have HOR2 : Hid (ordTo (grO ns) (ns.length - (out ++ [i]).length) (out ++ [i]) = ordG (grO ns)) := by
              have := ordTo_step HL.out HFI.out
              rw [HNL.out] at this
              unfold Hid
              rw [← this]
              exact HORD.out
            have hll := HL2.out.len
            rw [HNL.out, List.length_append, List.length_cons, List.length_nil] at hll
            go_wp2_with fail
            go_roundg (ns.length - (out ++ [i]).length)
            case measure => rw [List.length_append, List.length_cons, List.length_nil]; omega
            case rel => exact ⟨_, out ++ [i], rfl, HL2.out, HOR2.out, HE.out.1, HE.out.2, HB.out, HR.out.congr fun k _ => by show intV _ = intV _; rw [leftJ_end HS.out HNI.out], HF.out, HO.out, HAP.out⟩
end Go.Proofs.YtfegmmafcopbpaaGreatDoor
