/- The walk over value.Vars. -/
import Derived.Test.YtbndgmbjfgmdnaaGreatDoorVq2
import Derived.Test.YtbndgmbjfgmdnaaGreatDoorVk3
namespace Go.Proofs.YtbndgmbjfgmdnaaGreatDoor
open Go.RowKit Go.Deep

theorem Tryz.vinfoVar : (Tryz.prog.info? 55).map (fun i => (i.zero, i.size, i.bytes)) = some (some (.agg #[.string ByteArray.empty, .int .i64 0, .bool false, .int .i64 0, .string ByteArray.empty, .slice none 0 0, .slice none 0 0]), 7, 104) := by kernel_rfl
theorem Tryz.vinfoVar' : ∃ i, Tryz.prog.info? 55 = some i ∧ i.zero = some (.agg #[.string ByteArray.empty, .int .i64 0, .bool false, .int .i64 0, .string ByteArray.empty, .slice none 0 0, .slice none 0 0]) ∧ i.size = 7 ∧ i.bytes = 104 := info_parts Tryz.vinfoVar

theorem Tryz.built_var (nm : ByteArray) (c0 c1 c2 c3 c4 c5 : Value) :
    Tryz.prog.built 55 [(0, .string nm), (1, .agg #[c0, c1, c2, c3, c4, c5])] = some #[.string nm, c0, c1, c2, c3, c4, c5] := by kernel_rfl
/-- what a map that is valid looks like -/
theorem map_parts {t : VT} (h : validF t = 0) (hk : t.kind = 5) : t.keys.length = t.list.length ∧ t.list.length ≤ 1024 := by
  obtain ⟨hn, _⟩ := check_zero h
  obtain ⟨_, _, _, _, _, _, _, hl, _, hy⟩ := node_zero hn
  have hkd := hy hk
  unfold keyedF at hkd
  rw [Bool.and_eq_true] at hkd
  exact ⟨of_decide_eq_true hkd.1, hl⟩
def VsPost (t : VT) (w : World) (e : Ending) (w' : World) : Prop :=
  ∃ v, e = .returned (.tuple #[v, .int .i64 ((varsE t : Nat) : Int)]) ∧ EVar.Row (fun q => w.heap.size ≤ q) w' (varsL t) v ∧ Below w.heap.size w w'
def VsRel (w1 : World) (ks : List ByteArray) (L : List VT) (f : Nat) (t19 t5 : Value) (wr : World) : Prop :=
  ∃ i : Nat, t19 = .int .i64 (i : Nat) ∧ i ≤ ks.length ∧ f = ks.length - i ∧ EVar.Own 55 w1.heap.size (fun q => w1.heap.size ≤ q) wr ((ks.zip L).take i) t5 ∧ Below w1.heap.size w1 wr

set_option maxRecDepth 100000 in
set_option maxHeartbeats 3200000 in
theorem vvars_any (t : VT) (hwf : t.wf) (v : Value) (W : World) (h : VAt W v t) : Calls Tryz.prog 23 #[v] W (VsPost t W) := by
  have VC := fun W' (hW : Below W.heap.size W W') => Lib.hid (valid_any v t W' (h.below hW) hwf)
  obtain ⟨v4, v5, rfl, hs, hL⟩ := h.open
  have HE : Hid (varsE t = if validF t ≠ 0 then validF t else if t.kind ≠ 5 then 9 else 0) := rfl
  have HLL : Hid (varsL t = if varsE t = 0 then t.keys.zip t.list else []) := rfl
  have HMP := Lib.hid (fun (a : validF t = 0) (b : t.kind = 5) => map_parts a b)
  have HFT := Lib.hid (fun (a : validF t = 0) => (VT.fit_parts (fit_valid a)).2.2)
  obtain ⟨ko, kc, rfl⟩ := hs.form
  obtain ⟨lo, lc, rfl⟩ := vlist_slice hL
  have FIN : Hid (∀ e w' v, e = Ending.returned (.tuple #[v, .int .i64 ((varsE t : Nat) : Int)]) → EVar.Row (fun q => W.heap.size ≤ q) w' (varsL t) v → Below W.heap.size W w' → VsPost t W e w') := fun e w' v h1 h2 h3 => ⟨v, h1, h2, h3⟩
  generalize t.kind = k at *
  generalize t.bool = b at *
  generalize t.int = n at *
  generalize t.str = s at *
  generalize t.list = L at *
  generalize t.keys = ks at *
  generalize varsL t = VL at *
  generalize varsE t = VE at *
  generalize validF t = ve at *
  obtain ⟨W1, hW1⟩ : ∃ W1, W.alloc (.cells #[.int .i64 k, .bool b, .int .i64 n, .string s, .slice lo L.length lc, .slice ko ks.length kc] 25 (0, 0)) = W1 := ⟨_, rfl⟩
  have hk0 : W1.heap[W.heap.size]? = some (.cells #[.int .i64 k, .bool b, .int .i64 n, .string s, .slice lo L.length lc, .slice ko ks.length kc] 25 (0, 0)) := by rw [← hW1]; exact hp_new rfl
  have HB : Hid (Below W.heap.size W W1) := by unfold Hid; rw [← hW1]; exact (Below.refl _ W).alloc (Nat.le_refl _) _
  have HLT : Hid (W.heap.size < W1.heap.size) := (Array.getElem?_eq_some_iff.1 hk0).1
  have HK0 := Lib.hid hk0
  have VC1 := VC W1 HB.out
  have HL := Lib.hid hL
  have HKS := Lib.hid hs
  have g0 : W1.cell? ⟨W.heap.size, 0, none⟩ = some (.int .i64 k) := cell_of_blk hk0 0
  have g1 : W1.cell? ⟨W.heap.size, 1, none⟩ = some (.bool b) := cell_of_blk hk0 1
  have g2 : W1.cell? ⟨W.heap.size, 2, none⟩ = some (.int .i64 n) := cell_of_blk hk0 2
  have g3 : W1.cell? ⟨W.heap.size, 3, none⟩ = some (.string s) := cell_of_blk hk0 3
  have g4 : W1.cell? ⟨W.heap.size, 4, none⟩ = some (.slice lo L.length lc) := cell_of_blk hk0 4
  have g5 : W1.cell? ⟨W.heap.size, 5, none⟩ = some (.slice ko ks.length kc) := cell_of_blk hk0 5
  have HKW : Hid (∀ W', Below W1.heap.size W1 W' → W'.cell? ⟨W.heap.size, 0, none⟩ = some (.int .i64 k) ∧ W'.cell? ⟨W.heap.size, 4, none⟩ = some (.slice lo L.length lc) ∧ W'.cell? ⟨W.heap.size, 5, none⟩ = some (.slice ko ks.length kc)) := fun W' hW => by
    have := (hW.block _ HLT.out).trans HK0.out
    exact ⟨cell_of_blk this 0, cell_of_blk this 4, cell_of_blk this 5⟩
  clear hk0 hs hL h hwf VC
  go_enter Tryz.func23, Tryz.ntmps23
  go_wp2_with fail
  refine VC1.out.mono ?_
  rintro e w3 ⟨rfl, hb3⟩
  have HB3 := Lib.hid (HB.out.trans (hb3.mono HB.out.size))
  obtain ⟨c0, c4, c5⟩ := HKW.out w3 hb3
  have HB13 := Lib.hid hb3
  clear hb3 VC1 g0 g1 g2 g3 g4 g5 hW1
  by_cases hv : ve = 0
  · have t1b : ((ve : Int) == 0) = true := by rw [hv]; rfl
    have t1 : ((ve : Int) != 0) = false := by rw [hv]; rfl
    by_cases hk5 : k = 5
    · obtain ⟨hlen, h1024⟩ := HMP.out hv hk5
      have HV0 : Hid (VE = 0) := by unfold Hid; rw [HE.out, if_neg (fun h => h hv), if_neg (fun h => h hk5)]
      have HVL : Hid (VL = ks.zip L) := by unfold Hid; rw [HLL.out, if_pos HV0.out]
      have HFL := Lib.hid (HFT.out hv)
      have t5 : (k == 5) = true := by rw [hk5]; rfl
      have t5b : (k != 5) = false := by rw [hk5]; rfl
      have HZL : Hid ((ks.zip L).length = ks.length) := by unfold Hid; rw [List.length_zip]; omega
      have HLEN := Lib.hid hlen
      have hks24 : ks.length ≤ 1024 := by omega
      obtain ⟨iV, hiV, hzV, hnV, hyV⟩ := Tryz.vinfoVar'
      have HI := Lib.hid hiV
      clear hiV hv hk5 HE HLL HMP HFT hlen
      as_aux_lemma =>
      go_wp2_with fail
      go_loopg [19, 5] ks.length (VsRel w3 ks L)
      case atStart => exact ⟨0, rfl, Nat.zero_le _, rfl, .nil, Below.refl _ _⟩
      case round =>
        obtain ⟨i, rfl, hi, rfl, ho, hbel⟩ := hrel
        have HZT : Hid (((ks.zip L).take i).length = i) := by unfold Hid; rw [List.length_take, HZL.out]; omega
        have HB4 := Lib.hid (HB3.out.trans (hbel.mono HB3.out.size))
        obtain ⟨c0, c4, c5⟩ := HKW.out wr (HB13.out.trans (hbel.mono HB13.out.size))
        obtain ⟨vo, vc, rfl⟩ := ho.form
        rw [HZT.out] at ho ⊢
        have HO := Lib.hid ho
        have HBR := Lib.hid hbel
        have hws : w3.heap.size ≤ wr.heap.size := hbel.size
        clear ho hbel
        by_cases hlt : i < ks.length
        · have hlm : i < L.length := by rw [← HLEN.out]; exact hlt
          have hii : (i : Int) < (ks.length : Int) := by omega
          have hij : (i : Int) < (L.length : Int) := by omega
          obtain ⟨b1, o1, rfl, _, hc1⟩ := (HKS.out.below HB4.out).at_ hlt
          rw [getD_at hlt] at hc1
          obtain ⟨bl, off, ce, rfl, hbl, hce, hvc⟩ := (HL.out.below HB4.out).at hlm
          have CC := Lib.hid (vclone_any L[i] (HFL.out _ (List.getElem_mem hlm)) _ wr ⟨_, rfl, hvc⟩)
          obtain ⟨k1, d1, n1, s1, lo1, ln1, lc1, ko1, kn1, kc1, rfl⟩ := vcell_slices0 hvc
          have e0 := hce 0 _ rfl
          have e1 := hce 1 _ rfl
          have e2 := hce 2 _ rfl
          have e3 := hce 3 _ rfl
          have e4 := hce 4 _ rfl
          have e5 := hce 5 _ rfl
          rw [Nat.add_zero] at e0
          have HTK : Hid ((ks.zip L).take i ++ [(ks[i], L[i])] = (ks.zip L).take (i + 1)) := by
            unfold Hid
            rw [List.take_succ_eq_append_getElem (show i < (ks.zip L).length by rw [HZL.out]; exact hlt), List.getElem_zip]
          clear hce hvc HFL
          generalize ks[i] = nm at *
          generalize L[i] = x at *
          as_aux_lemma =>
          go_wp2_with fail
          refine CC.out.mono ?_
          rintro e w5 ⟨u, rfl, hu, hb5⟩
          obtain ⟨lo6, lc6, ko6, kc6, rfl, hk6, hl6⟩ := hu.open
          have HX6 := Lib.hid (VAtB.make hk6 hl6)
          have HB5 := Lib.hid hb5
          clear hu hb5 hk6 hl6 CC e0 e1 e2 e3 e4 e5 hc1
          have HO5 := Lib.hid ((HO.out.below HB5.out).below ((Below.refl w5.heap.size w5).alloc (Nat.le_refl _) (.cells #[.string nm, .int .i64 x.kind, .bool x.bool, .int .i64 x.int, .string x.str, .slice lo6 x.list.length lc6, .slice ko6 x.keys.length kc6] 55 (0, 0))))
          have h5s := HB5.out.size
          have HX7 : Hid (EVar.R (fun q => w3.heap.size ≤ q ∧ (Value.slice vo i vc).ownBlock ≠ some q) (w5.alloc (.cells #[.string nm, .int .i64 x.kind, .bool x.bool, .int .i64 x.int, .string x.str, .slice lo6 x.list.length lc6, .slice ko6 x.keys.length kc6] 55 (0, 0))) (nm, x) [.string nm, .int .i64 x.kind, .bool x.bool, .int .i64 x.int, .string x.str, .slice lo6 x.list.length lc6, .slice ko6 x.keys.length kc6]) := by
            obtain ⟨cs, h1, h2⟩ := HX6.out
            have h3 : cs = _ := (List.toArray_inj (Value.agg.inj h1)).symm
            subst h3
            exact evar_mk (VCellB.mono (fun q hq => ⟨by omega, HO.out.sep q hq⟩) _ _ (VCellB.keep ((Below.refl w5.heap.size w5).alloc (Nat.le_refl _) _).size (fun c _ hc => ((Below.refl w5.heap.size w5).alloc (Nat.le_refl _) _).block c hc) _ _ h2))
          have h3s := HB13.out.size
          have h1s := HLT.out
          have c45 : w5.cell? ⟨W.heap.size, 4, none⟩ = some (.slice (some ⟨bl, off, none⟩) L.length lc) := (HB5.out.cell (p := ⟨W.heap.size, 4, none⟩) (by show W.heap.size < _; omega)).trans c4
          dsimp only
          rename_i K6 a6
          refine a6 _ _ ?_
          clear a6
          refine wpList_build2 rfl 55 (.tmp 25) (.tmp 31) rfl _ _ rfl rfl #[.string nm, .int .i64 x.kind, .bool x.bool, .int .i64 x.int, .string x.str, .slice lo6 x.list.length lc6, .slice ko6 x.keys.length kc6] (Tryz.built_var _ _ _ _ _ _ _) ?_
          try simp only [Act.put, List.setIfInBounds_toArray, List.set_cons_zero, List.set_cons_succ]
          refine wpList_build1 rfl 35 55 (.tmp 32) rfl #[.string nm, .int .i64 x.kind, .bool x.bool, .int .i64 x.int, .string x.str, .slice lo6 x.list.length lc6, .slice ko6 x.keys.length kc6] iV _ Tryz.underlying35 HI.out hzV 7 hnV (by decide) (by decide) rfl rfl ?_
          try simp only [Act.put, List.setIfInBounds_toArray, List.set_cons_zero, List.set_cons_succ]
          refine wpList_own_push (E := EVar) rfl _ _ 35 rfl w3.heap.size 55 iV _ 104 Tryz.underlying35 HI.out hzV hnV hyV rfl _ (.slice vo i vc) rfl HO5.out (nm, x) [.string nm, .int .i64 x.kind, .bool x.bool, .int .i64 x.int, .string x.str, .slice lo6 x.list.length lc6, .slice ko6 x.keys.length kc6] HX7.out w5.heap.size (0, 0) (hp_new rfl) rfl (by rw [HZT.out]; unfold maxLen; omega) (by rw [HZT.out]; omega) (by simp; omega) ?_
          try simp only [Act.put, List.setIfInBounds_toArray, List.set_cons_zero, List.set_cons_succ]
          intro v8 w8 hown hgrow hpu
          obtain ⟨g8, p8, rfl⟩ := hpu.form
          rw [HTK.out] at hown
          have hba := (Below.refl w5.heap.size w5).alloc (Nat.le_refl _) (.cells #[.string nm, .int .i64 x.kind, .bool x.bool, .int .i64 x.int, .string x.str, .slice lo6 x.list.length lc6, .slice ko6 x.keys.length kc6] 55 (0, 0))
          have hbg : Below w3.heap.size (w5.alloc (.cells #[.string nm, .int .i64 x.kind, .bool x.bool, .int .i64 x.int, .string x.str, .slice lo6 x.list.length lc6, .slice ko6 x.keys.length kc6] 55 (0, 0))) w8 := below_grown hgrow (by simp; omega) (fun q e => (HO5.out.low q e).1)
          have HB8 : Hid (Below w3.heap.size w3 w8) := (((HBR.out).trans (HB5.out.mono hws)).trans (hba.mono (by omega))).trans hbg
          have HOW := Lib.hid hown
          clear hown hgrow hpu hba hbg HX7 HO5 HX6 HO
          go_wp2_with fail
          go_roundg (ks.length - (i + 1))
          case measure => omega
          case rel => exact ⟨i + 1, by go_num, by omega, rfl, HOW.out, HB8.out⟩
        · have hii : ¬ (i : Int) < (ks.length : Int) := by omega
          have he : i = ks.length := by omega
          have HRW : Hid (EVar.Row (fun q => W.heap.size ≤ q) wr VL (.slice vo i vc)) := by
            have hz2 : (ks.zip L).take i = ks.zip L := by rw [he, ← HZL.out, List.take_length]
            have := HO.out.row (B' := fun q => W.heap.size ≤ q) (fun q hq => by have := HLT.out; have := HB13.out.size; omega) (fun q hq => by have := HLT.out; have := HB13.out.size; omega)
            rw [hz2, ← HVL.out] at this
            exact this
          clear HO he
          go_wp2_with fail
          go_ret2
          exact FIN.out _ _ _ (by rw [HV0.out] <;> rfl) HRW.out HB4.out
    · have HV9 : Hid (VE = 9) := by unfold Hid; rw [HE.out, if_neg (fun h => h hv), if_pos hk5]
      have HVL : Hid (VL = []) := by unfold Hid; rw [HLL.out, if_neg (by rw [HV9.out]; decide)]
      have t5 : (k == 5) = false := by rw [beq_eq_false_iff_ne]; exact hk5
      have t5b : (k != 5) = true := by simp [bne, t5]
      clear hv hk5 HE HLL HMP HFT
      as_aux_lemma =>
      go_wp2_with fail
      go_ret2
      exact FIN.out _ _ _ (by rw [HV9.out] <;> rfl) (by rw [HVL.out]; exact .nil) HB3.out
  · have t1b : ((ve : Int) == 0) = false := by rw [beq_eq_false_iff_ne]; omega
    have t1 : ((ve : Int) != 0) = true := by simp [bne, t1b]
    have HVE : Hid (VE = ve) := by unfold Hid; rw [HE.out, if_pos hv]
    have HVL : Hid (VL = []) := by unfold Hid; rw [HLL.out, if_neg (by rw [HVE.out]; exact hv)]
    clear hv HE HLL HMP HFT
    as_aux_lemma =>
    go_wp2_with fail
    go_ret2
    exact FIN.out _ _ _ (by rw [HVE.out] <;> rfl) (by rw [HVL.out]; exact .nil) HB3.out
end Go.Proofs.YtbndgmbjfgmdnaaGreatDoor
