/- The walks over the reference: names, scalars, Equal. -/
import Derived.Test.YtomecnncighkgaaGreatDoorMw1
import Derived.Test.YtomecnncighkgaaGreatDoorVcm
import Derived.Test.YtomecnncighkgaaGreatDoorVp3m
import Derived.Test.YtomecnncighkgaaGreatDoorVa5
import Derived.StillTailTactics
import Derived.BigQuiet
namespace Go.Proofs.YtomecnncighkgaaGreatDoor
open Go.RowKit Go.Deep

set_option maxRecDepth 100000 in
theorem rnamed_any (s : ByteArray) (w : World) : Calls Tryz.prog 40 #[.string s] w fun e w' => e = .returned (.bool (keyOk s)) ∧ w' = w := by
  have HK : Hid (keyOk s = (decide (1 ≤ s.size) && decide (s.size ≤ 64))) := rfl
  generalize keyOk s = r at *
  cases hs : s.data.toList with
  | nil =>
    obtain ⟨e1, e2⟩ := str_nil hs
    have HN : Hid (r = false) := by unfold Hid; rw [HK.out, e2]; rfl
    have t1 : decide ((1 : Int) ≤ (s.size : Int)) = false := decide_eq_false (by omega)
    have t1b : ¬ (1 : Int) ≤ (s.size : Int) := by omega
    have t1c : (s.size : Int) < 1 := by omega
    clear hs e2 HK
    as_aux_lemma =>
    go_enter Tryz.func40, Tryz.ntmps40
    go_wp2_with fail
    go_ret
    exact ⟨by rw [HN.out] <;> rfl, rfl⟩
  | cons c q =>
    obtain ⟨e1, e2⟩ := str_cons hs
    have t1 : (1 : Int) ≤ (s.size : Int) := by omega
    by_cases h64 : s.size ≤ 64
    · have t2 : (s.size : Int) ≤ 64 := by omega
      have HN : Hid (r = true) := by unfold Hid; rw [HK.out, decide_eq_true h64, decide_eq_true (show 1 ≤ s.size by omega)]; rfl
      clear hs e2 HK h64
      as_aux_lemma =>
      go_enter Tryz.func40, Tryz.ntmps40
      go_wp2_with fail
      go_ret
      exact ⟨by rw [HN.out] <;> rfl, rfl⟩
    · have t2 : decide ((s.size : Int) ≤ 64) = false := decide_eq_false (by omega)
      have t2b : ¬ (s.size : Int) ≤ 64 := by omega
      have t2c : (64 : Int) < (s.size : Int) := by omega
      have HN : Hid (r = false) := by unfold Hid; rw [HK.out, decide_eq_false h64, Bool.and_false]
      clear hs e2 HK h64
      as_aux_lemma =>
      go_enter Tryz.func40, Tryz.ntmps40
      go_wp2_with fail
      go_ret
      exact ⟨by rw [HN.out] <;> rfl, rfl⟩
set_option maxRecDepth 100000 in
set_option maxHeartbeats 1600000 in
theorem rscalar_any (v : Value) (t : VT) (w : World) (h : VAt w v t) (hwf : t.wf) : Calls Tryz.prog 70 #[v] w fun e w' => e = .returned (.int .i64 (scalF t : Nat)) ∧ Below w.heap.size w w' := by
  have HV : Hid (∀ W', Below w.heap.size w W' → Calls Tryz.prog 79 #[v] W' fun e w' => e = .returned (.int .i64 (validF t : Nat)) ∧ Below W'.heap.size W' w') := fun W' hb => rvalid_any v t W' (h.below hb) hwf
  have HS : Hid (scalF t = if t.kind = 4 ∨ t.kind = 5 then 9 else validF t) := rfl
  obtain ⟨v4, v5, rfl, hs, hL⟩ := h.open
  obtain ⟨ko, kc, rfl⟩ := hs.form
  obtain ⟨lo, lc, rfl⟩ := vlist_slice hL
  obtain ⟨W1, hW1⟩ : ∃ W1, w.alloc (.cells #[.int .i64 t.kind, .bool t.bool, .int .i64 t.int, .string t.str, .slice lo t.list.length lc, .slice ko t.keys.length kc] 46 (0, 0)) = W1 := ⟨_, rfl⟩
  have hk1 : W1.heap[w.heap.size]? = some (.cells #[.int .i64 t.kind, .bool t.bool, .int .i64 t.int, .string t.str, .slice lo t.list.length lc, .slice ko t.keys.length kc] 46 (0, 0)) := by rw [← hW1]; exact hp_new rfl
  have HB1 : Hid (Below w.heap.size w W1) := by unfold Hid; rw [← hW1]; exact (Below.refl _ w).alloc (Nat.le_refl _) _
  have CV := Lib.hid (HV.out W1 HB1.out)
  clear h hwf hs hL HV
  generalize scalF t = r at *
  generalize validF t = e at *
  generalize t.kind = k at *
  generalize t.bool = b at *
  generalize t.int = n at *
  generalize t.str = s at *
  generalize t.list.length = ll at *
  generalize t.keys.length = kl at *
  have c0 : W1.cell? ⟨w.heap.size, 0, none⟩ = _ := cell_of_blk hk1 0
  have c1 : W1.cell? ⟨w.heap.size, 1, none⟩ = _ := cell_of_blk hk1 1
  have c2 : W1.cell? ⟨w.heap.size, 2, none⟩ = _ := cell_of_blk hk1 2
  have c3 : W1.cell? ⟨w.heap.size, 3, none⟩ = _ := cell_of_blk hk1 3
  have c4 : W1.cell? ⟨w.heap.size, 4, none⟩ = _ := cell_of_blk hk1 4
  have c5 : W1.cell? ⟨w.heap.size, 5, none⟩ = _ := cell_of_blk hk1 5
  clear hk1
  by_cases h4 : k = 4
  · have HN : Hid (r = 9) := by unfold Hid; rw [HS.out, if_pos (.inl h4)]
    have t4 : (k == 4) = true := by rw [h4]; rfl
    clear h4 HS CV
    as_aux_lemma =>
    go_enter Tryz.func70, Tryz.ntmps70
    go_wp2_with fail
    go_ret
    exact ⟨by rw [HN.out] <;> rfl, HB1.out⟩
  · have t4 : (k == 4) = false := beq_eq_false_iff_ne.2 h4
    by_cases h5 : k = 5
    · have HN : Hid (r = 9) := by unfold Hid; rw [HS.out, if_pos (.inr h5)]
      have t5 : (k == 5) = true := by rw [h5]; rfl
      clear h4 h5 HS CV
      as_aux_lemma =>
      go_enter Tryz.func70, Tryz.ntmps70
      go_wp2_with fail
      go_ret
      exact ⟨by rw [HN.out] <;> rfl, HB1.out⟩
    · have t5 : (k == 5) = false := beq_eq_false_iff_ne.2 h5
      have HN : Hid (r = e) := by unfold Hid; rw [HS.out, if_neg (fun q => q.elim h4 h5)]
      clear h4 h5 HS
      as_aux_lemma =>
      go_enter Tryz.func70, Tryz.ntmps70
      go_wp2_with fail
      refine CV.out.mono ?_
      rintro q w3 ⟨rfl, hb⟩
      have HB3 : Hid (Below w.heap.size w w3) := HB1.out.trans (hb.mono HB1.out.size)
      clear CV hb
      go_wp2_with fail
      go_ret
      exact ⟨by rw [HN.out] <;> rfl, HB3.out⟩
set_option maxRecDepth 100000 in
set_option maxHeartbeats 1600000 in
theorem requal_any (x y : VT) (hx : x.wf) (hy : y.wf) (v u : Value) (W : World) (h1 : VAt W v x) (h2 : VAt W u y) : Calls Tryz.prog 71 #[v, u] W fun e w' => e = .returned (.bool (decide (cmpV x y = 0))) ∧ Below W.heap.size W w' := by
  have HC : Hid (∀ W3, Below W.heap.size W W3 → Calls Tryz.prog 89 #[v, u] W3 fun e w' => e = .returned (.int .i64 (cmpV x y)) ∧ Below W3.heap.size W3 w') := fun W3 h3 => rvcompare_any x y hx hy v u W3 (h1.below h3) (h2.below h3)
  obtain ⟨cs, rfl, hc⟩ := h1
  obtain ⟨cs', rfl, hc'⟩ := h2
  obtain ⟨k1, c1, n1, s1, lo1, ln1, lc1, ko1, kn1, kc1, rfl⟩ := vcell_slices0 hc
  obtain ⟨k2, c2, n2, s2, lo2, ln2, lc2, ko2, kn2, kc2, rfl⟩ := vcell_slices0 hc'
  have HA2 : Hid (∀ o o2, Below W.heap.size W ((W.alloc o).alloc o2)) := fun o o2 => ((Below.refl _ W).alloc (Nat.le_refl _) o).alloc (by simp) o2
  clear hc hc'
  generalize cmpV x y = q at *
  have HD : Hid ((q == 0) = decide (q = 0)) := by unfold Hid; rw [Bool.eq_iff_iff]; simp
  go_enter Tryz.func71, Tryz.ntmps71
  go_wp2_with fail
  refine (HC.out _ (HA2.out _ _)).mono ?_
  rintro e w5 ⟨rfl, hu⟩
  have HB5 := Lib.hid ((HA2.out _ _).trans (hu.mono (HA2.out _ _).size))
  clear hu HC
  go_wp2_with fail
  go_ret
  exact ⟨by first | rfl | rw [HD.out] | simp [HD.out], HB5.out⟩
end Go.Proofs.YtomecnncighkgaaGreatDoor
/- The walks over the reference's has, Matches, Agree. -/
namespace Go.Proofs.YtomecnncighkgaaGreatDoor
open Go.RowKit Go.Deep

def HsRel (V : List VR) (x : VR) (w1 : World) (f : Nat) (t5 : Value) (wr : World) : Prop :=
  ∃ i : Nat, t5 = .int .i64 (i : Nat) ∧ i ≤ V.length ∧ f = V.length - i ∧ hasF V x = hasF (V.drop i) x ∧ Below w1.heap.size w1 wr
set_option maxRecDepth 100000 in
set_option maxHeartbeats 3200000 in
theorem rhas_any (V : List VR) (x : VR) (v : Value) (cs : List Value) (B C : Nat → Prop) (hlV : V.length ≤ 9223372036854775807) (hwV : ∀ x ∈ V, x.2.wf) (hwx : x.2.wf) (w : World) (hV : EVar.Row B w V v) (hx : EVar.R C w x cs) :
    Calls Tryz.prog 46 #[v, .agg cs.toArray] w fun e w' => e = .returned (.bool (hasF V x)) ∧ Below w.heap.size w w' := by
  obtain ⟨vo, vc, rfl⟩ := hV.form
  obtain ⟨a1, c1, a2, c2, rfl, hva⟩ := evar_seven hx
  obtain ⟨W1, hW1⟩ : ∃ W1, w.alloc (.cells #[.string x.1, .int .i64 x.2.kind, .bool x.2.bool, .int .i64 x.2.int, .string x.2.str, .slice a1 x.2.list.length c1, .slice a2 x.2.keys.length c2] 48 (0, 0)) = W1 := ⟨_, rfl⟩
  have hk1 : W1.heap[w.heap.size]? = some (.cells #[.string x.1, .int .i64 x.2.kind, .bool x.2.bool, .int .i64 x.2.int, .string x.2.str, .slice a1 x.2.list.length c1, .slice a2 x.2.keys.length c2] 48 (0, 0)) := by rw [← hW1]; exact hp_new rfl
  have hb1 : Below w.heap.size w W1 := by rw [← hW1]; exact (Below.refl _ w).alloc (Nat.le_refl _) _
  have HLT : Hid (w.heap.size < W1.heap.size) := (Array.getElem?_eq_some_iff.1 hk1).1
  have HBX : Hid (∀ W', Below W1.heap.size W1 W' → W'.cell? ⟨w.heap.size, 0, none⟩ = some (.string x.1) ∧ W'.cell? ⟨w.heap.size, 1, none⟩ = some (.int .i64 x.2.kind) ∧ W'.cell? ⟨w.heap.size, 2, none⟩ = some (.bool x.2.bool) ∧ W'.cell? ⟨w.heap.size, 3, none⟩ = some (.int .i64 x.2.int) ∧ W'.cell? ⟨w.heap.size, 4, none⟩ = some (.string x.2.str) ∧ W'.cell? ⟨w.heap.size, 5, none⟩ = some (.slice a1 x.2.list.length c1) ∧ W'.cell? ⟨w.heap.size, 6, none⟩ = some (.slice a2 x.2.keys.length c2)) := fun W' hb => by
    have q := (hb.block _ HLT.out).trans hk1
    exact ⟨cell_of_blk q 0, cell_of_blk q 1, cell_of_blk q 2, cell_of_blk q 3, cell_of_blk q 4, cell_of_blk q 5, cell_of_blk q 6⟩
  have HV := Lib.hid (hV.below hb1)
  have HVA := Lib.hid (hva.below hb1)
  have HWV := Lib.hid hwV
  have HWX := Lib.hid hwx
  have HB1 := Lib.hid hb1
  have HE : Hid (hasF (V.drop V.length) x = false) := has_end V x
  have HS : Hid (∀ i (hi : i < V.length), hasF V x = hasF (V.drop i) x → ((V[i].1.toList == x.1.toList) = true → hasF V x = decide (cmpV V[i].2 x.2 = 0)) ∧ ((V[i].1.toList == x.1.toList) = false → hasF V x = hasF (V.drop (i + 1)) x)) := fun i hi h => has_step hi h
  clear hV hx hwV hwx hva hk1 hb1
  go_enter Tryz.func46, Tryz.ntmps46
  go_wp2_with fail
  clear hW1
  go_loopg [5] V.length (HsRel V x W1)
  case atStart => exact ⟨0, rfl, Nat.zero_le _, rfl, by simp, Below.refl _ _⟩
  case round =>
    obtain ⟨i, rfl, hi, rfl, hk, hbel⟩ := hrel
    have HK := Lib.hid hk
    have HB := Lib.hid hbel
    clear hk hbel
    by_cases hlt : i < V.length
    · have hii : (i : Int) < (V.length : Int) := by omega
      obtain ⟨bv, ov, cv, rfl, _, hbv, hcv, hRv⟩ := (HV.out.below HB.out).at hlt
      obtain ⟨a3, c3, a4, c4, rfl, hvb⟩ := evar_seven hRv
      have HS2 := Lib.hid (HS.out i hlt HK.out)
      have hwy := HWV.out _ (List.getElem_mem hlt)
      have hlx := HVA.out.below HB.out
      have EQ : Hid (∀ W', Below wr.heap.size wr W' → Calls Tryz.prog 71 #[.agg #[.int .i64 V[i].2.kind, .bool V[i].2.bool, .int .i64 V[i].2.int, .string V[i].2.str, .slice a3 V[i].2.list.length c3, .slice a4 V[i].2.keys.length c4], .agg #[.int .i64 x.2.kind, .bool x.2.bool, .int .i64 x.2.int, .string x.2.str, .slice a1 x.2.list.length c1, .slice a2 x.2.keys.length c2]] W' fun e w' => e = .returned (.bool (decide (cmpV V[i].2 x.2 = 0))) ∧ Below W'.heap.size W' w') := fun W' hb => requal_any _ _ hwy HWX.out _ _ W' (hvb.at_.below hb) (hlx.at_.below hb)
      have HQX : Hid (∀ W', Below wr.heap.size wr W' → (W'.cell? ⟨bv, ov + i * 7, none⟩ = some (.string V[i].1) ∧ W'.cell? ⟨bv, ov + i * 7 + 1, none⟩ = some (.int .i64 V[i].2.kind) ∧ W'.cell? ⟨bv, ov + i * 7 + 2, none⟩ = some (.bool V[i].2.bool) ∧ W'.cell? ⟨bv, ov + i * 7 + 3, none⟩ = some (.int .i64 V[i].2.int) ∧ W'.cell? ⟨bv, ov + i * 7 + 4, none⟩ = some (.string V[i].2.str) ∧ W'.cell? ⟨bv, ov + i * 7 + 5, none⟩ = some (.slice a3 V[i].2.list.length c3) ∧ W'.cell? ⟨bv, ov + i * 7 + 6, none⟩ = some (.slice a4 V[i].2.keys.length c4)) ∧ (W'.cell? ⟨w.heap.size, 0, none⟩ = some (.string x.1) ∧ W'.cell? ⟨w.heap.size, 1, none⟩ = some (.int .i64 x.2.kind) ∧ W'.cell? ⟨w.heap.size, 2, none⟩ = some (.bool x.2.bool) ∧ W'.cell? ⟨w.heap.size, 3, none⟩ = some (.int .i64 x.2.int) ∧ W'.cell? ⟨w.heap.size, 4, none⟩ = some (.string x.2.str) ∧ W'.cell? ⟨w.heap.size, 5, none⟩ = some (.slice a1 x.2.list.length c1) ∧ W'.cell? ⟨w.heap.size, 6, none⟩ = some (.slice a2 x.2.keys.length c2))) := fun W' hb => by
        have e : ∀ (j : Nat) u, [Value.string V[i].1, .int .i64 V[i].2.kind, .bool V[i].2.bool, .int .i64 V[i].2.int, .string V[i].2.str, .slice a3 V[i].2.list.length c3, .slice a4 V[i].2.keys.length c4][j]? = some u → W'.cell? ⟨bv, ov + i * 7 + j, none⟩ = some u := fun j u hu => (hb.cell (p := ⟨bv, ov + i * 7 + j, none⟩) hbv).trans (hcv j u hu)
        exact ⟨⟨e 0 _ rfl, e 1 _ rfl, e 2 _ rfl, e 3 _ rfl, e 4 _ rfl, e 5 _ rfl, e 6 _ rfl⟩, HBX.out W' (HB.out.trans (hb.mono HB.out.size))⟩
      obtain ⟨⟨q0, q1, q2, q3, q4, q5, q6⟩, p0, p1, p2, p3, p4, p5, p6⟩ := HQX.out wr (Below.refl _ _)
      clear hcv hRv hvb hwy hlx HBX HVA HK
      generalize V[i] = y at *
      generalize decide (cmpV y.2 x.2 = 0) = d at *
      by_cases hn : (y.1.toList == x.1.toList) = true
      · have HN := Lib.hid (HS2.out.1 hn)
        clear HS2 HS
        as_aux_lemma =>
        go_upto_region 4 with fail
        go_quiet (fail)
        rename_i nq
        have HBD := Lib.hid (below_drN wr nq)
        generalize wr.drewN nq = wd at *
        clear q0 q1 q2 q3 q4 q5 q6 p0 p1 p2 p3 p4 p5 p6
        obtain ⟨⟨q0, q1, q2, q3, q4, q5, q6⟩, p0, p1, p2, p3, p4, p5, p6⟩ := HQX.out wd HBD.out
        go_upto_region 5 with fail
        go_still_tail 7, (by kernel_rfl)
        change wpList _ _ _ _ _ (World.drew _)
        go_wp2_with fail
        refine (EQ.out _ HBD.out.drew).mono ?_
        rintro e w5 ⟨rfl, hb5⟩
        have HB5 : Hid (Below w.heap.size w w5) := HB1.out.trans ((HB.out.trans ((HBD.out.drew.trans (hb5.mono HBD.out.drew.size)).mono HB.out.size)).mono HB1.out.size)
        clear hb5 EQ q0 q1 q2 q3 q4 q5 q6 p0 p1 p2 p3 p4 p5 p6 HQX
        go_wp2_with fail
        go_ret
        exact ⟨by rw [HN.out] <;> rfl, HB5.out⟩
      · have hn : (y.1.toList == x.1.toList) = false := by simpa using hn
        have HN := Lib.hid (HS2.out.2 hn)
        clear HS2 EQ
        as_aux_lemma =>
        go_upto_region 4 with fail
        go_quiet (fail)
        go_wp2_with fail
        go_roundg (V.length - (i + 1))
        case measure => omega
        case rel => exact ⟨i + 1, by go_num, by omega, rfl, HN.out, HB.out.trans ((below_drN wr _).mono HB.out.size)⟩
    · have hii : ¬ (i : Int) < (V.length : Int) := by omega
      have he : i = V.length := by omega
      have HN : Hid (hasF V x = false) := by unfold Hid; rw [HK.out, he]; exact HE.out
      clear HK he HE
      as_aux_lemma =>
      go_wp2_with fail
      go_ret
      exact ⟨by rw [HN.out] <;> rfl, HB1.out.trans (HB.out.mono HB1.out.size)⟩
def RmRel (V P : List VR) (w1 : World) (f : Nat) (t5 : Value) (wr : World) : Prop :=
  ∃ i : Nat, t5 = .int .i64 (i : Nat) ∧ i ≤ P.length ∧ f = P.length - i ∧ matF V P = matF V (P.drop i) ∧ Below w1.heap.size w1 wr
set_option maxRecDepth 100000 in
set_option maxHeartbeats 3200000 in
theorem rmatches_any (V P : List VR) (v u : Value) (B C : Nat → Prop) (hlV : V.length ≤ 9223372036854775807) (hlP : P.length ≤ 9223372036854775807) (hwV : ∀ x ∈ V, x.2.wf) (hwP : ∀ x ∈ P, x.2.wf) (w : World) (hV : EVar.Row B w V v) (hP : EVar.Row C w P u) :
    Calls Tryz.prog 16 #[v, u] w fun e w' => e = .returned (.bool (matF V P)) ∧ Below w.heap.size w w' := by
  obtain ⟨vo, vc, rfl⟩ := hV.form
  obtain ⟨uo, uc, rfl⟩ := hP.form
  have HV := Lib.hid hV
  have HP := Lib.hid hP
  have HWV := Lib.hid hwV
  have HWP := Lib.hid hwP
  have HE : Hid (matF V (P.drop P.length) = true) := mat_end V P
  clear hV hP hwV hwP
  go_enter Tryz.func16, Tryz.ntmps16
  go_wp2_with fail
  go_loopg [5] P.length (RmRel V P w)
  case atStart => exact ⟨0, rfl, Nat.zero_le _, rfl, by simp, Below.refl _ _⟩
  case round =>
    obtain ⟨i, rfl, hi, rfl, hk, hbel⟩ := hrel
    have HK := Lib.hid hk
    have HB := Lib.hid hbel
    clear hk hbel
    by_cases hlt : i < P.length
    · have hii : (i : Int) < (P.length : Int) := by omega
      obtain ⟨bp, op, cp, rfl, _, hbp, hcp, hRp⟩ := (HP.out.below HB.out).at hlt
      have HC := Lib.hid (rhas_any V P[i] (.slice vo V.length vc) cp B C hlV HWV.out (HWP.out _ (List.getElem_mem hlt)) wr (HV.out.below HB.out) hRp)
      obtain ⟨a1, c1, a2, c2, rfl, hva⟩ := evar_seven hRp
      have e0 : wr.cell? ⟨bp, op + i * 7 + 0, none⟩ = _ := hcp 0 _ rfl
      have e1 : wr.cell? ⟨bp, op + i * 7 + 1, none⟩ = _ := hcp 1 _ rfl
      have e2 : wr.cell? ⟨bp, op + i * 7 + 2, none⟩ = _ := hcp 2 _ rfl
      have e3 : wr.cell? ⟨bp, op + i * 7 + 3, none⟩ = _ := hcp 3 _ rfl
      have e4 : wr.cell? ⟨bp, op + i * 7 + 4, none⟩ = _ := hcp 4 _ rfl
      have e5 : wr.cell? ⟨bp, op + i * 7 + 5, none⟩ = _ := hcp 5 _ rfl
      have e6 : wr.cell? ⟨bp, op + i * 7 + 6, none⟩ = _ := hcp 6 _ rfl
      rw [Nat.add_zero] at e0
      have HS := Lib.hid (mat_step (V := V) hlt HK.out)
      clear hcp hRp HK hva
      generalize P[i] = x at *
      generalize hasF V x = d at *
      as_aux_lemma =>
      go_wp2_with fail
      refine HC.out.mono ?_
      rintro e w3 ⟨rfl, hb3⟩
      have HB3 := Lib.hid (HB.out.trans (hb3.mono HB.out.size))
      clear hb3 HC e0 e1 e2 e3 e4 e5 e6
      cases d with
      | true =>
        have HN := Lib.hid (HS.out.2 rfl)
        clear HS
        go_wp2_with fail
        go_roundg (P.length - (i + 1))
        case measure => omega
        case rel => exact ⟨i + 1, by go_num, by omega, rfl, HN.out, HB3.out⟩
      | false =>
        have HN := Lib.hid (HS.out.1 rfl)
        clear HS
        go_wp2_with fail
        go_ret
        exact ⟨by rw [HN.out] <;> rfl, HB3.out⟩
    · have hii : ¬ (i : Int) < (P.length : Int) := by omega
      have he : i = P.length := by omega
      have HN : Hid (matF V P = true) := by unfold Hid; rw [HK.out, he]; exact HE.out
      clear HK he HE
      as_aux_lemma =>
      go_wp2_with fail
      go_ret
      exact ⟨by rw [HN.out] <;> rfl, HB.out⟩
set_option maxRecDepth 100000 in
set_option maxHeartbeats 1600000 in
theorem ragree_any (V P : List VR) (v u : Value) (B C : Nat → Prop) (hlV : V.length ≤ 9223372036854775807) (hlP : P.length ≤ 9223372036854775807) (hwV : ∀ x ∈ V, x.2.wf) (hwP : ∀ x ∈ P, x.2.wf) (w : World) (hV : EVar.Row B w V v) (hP : EVar.Row C w P u) :
    Calls Tryz.prog 33 #[v, u] w fun e w' => e = .returned (.bool (agrF V P)) ∧ Below w.heap.size w w' := by
  have C1 := Lib.hid (rmatches_any V P v u B C hlV hlP hwV hwP w hV hP)
  have C2 : Hid (∀ W', Below w.heap.size w W' → Calls Tryz.prog 16 #[u, v] W' fun e w' => e = .returned (.bool (matF P V)) ∧ Below W'.heap.size W' w') := fun W' hb => rmatches_any P V u v C B hlP hlV hwP hwV W' (hP.below hb) (hV.below hb)
  have HA : Hid (agrF V P = (matF V P && matF P V)) := rfl
  obtain ⟨vo, vc, rfl⟩ := hV.form
  obtain ⟨uo, uc, rfl⟩ := hP.form
  clear hV hP hwV hwP
  generalize agrF V P = r at *
  generalize matF V P = a at *
  generalize matF P V = b at *
  go_enter Tryz.func33, Tryz.ntmps33
  go_wp2_with fail
  refine C1.out.mono ?_
  rintro e w3 ⟨rfl, hb3⟩
  have HB3 := Lib.hid hb3
  have C3 := Lib.hid (C2.out w3 hb3)
  clear hb3 C1 C2
  cases a with
  | false =>
    have HN : Hid (r = false) := by unfold Hid; rw [HA.out]; rfl
    clear HA C3
    go_wp2_with fail
    go_ret
    exact ⟨by rw [HN.out] <;> rfl, HB3.out⟩
  | true =>
    have HN : Hid (r = b) := by unfold Hid; rw [HA.out]; rfl
    clear HA
    go_wp2_with fail
    refine C3.out.mono ?_
    rintro e w5 ⟨rfl, hb5⟩
    have HB5 := Lib.hid (HB3.out.trans (hb5.mono HB3.out.size))
    clear hb5 C3
    go_wp2_with fail
    go_ret
    exact ⟨by rw [HN.out] <;> rfl, HB5.out⟩
end Go.Proofs.YtomecnncighkgaaGreatDoor
