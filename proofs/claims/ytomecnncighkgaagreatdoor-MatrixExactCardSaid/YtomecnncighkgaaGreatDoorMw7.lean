/- The walk over matrix.combinations and its closure: the combinations handed one by one to a round. -/
import Derived.Test.YtomecnncighkgaaGreatDoorMw2
import Derived.Test.YtomecnncighkgaaGreatDoorVa5
import Derived.Test.YtomecnncighkgaaGreatDoorVk3
import Derived.WalkMore
import Derived.Deep.OwnRows
import Derived.StillTailTactics
import Derived.BigQuiet
namespace Go.Proofs.YtomecnncighkgaaGreatDoor
open Go.RowKit Go.Shelf Go.Deep

attribute [local go_sem] Oper.semAt_some

theorem Tryz.info3M : (Tryz.prog.info? 3).map (fun i => (i.zero, i.size, i.bytes)) = some (some (.int .i64 0), 1, 8) := by kernel_rfl
theorem wp_build2M {P : Program} {o : Oper} {a : Act} {w : World} {K : Act → World → Prop} {Q : Exit → Act → World → Prop} (t : TypeId) (x y : Operand) (ho : o.op = .build t #[(0, x), (1, y)])
    (vx vy : Value) (hx : a.eval x = vx) (hy : a.eval y = vy) (cells : Array Value) (hf : P.built t [(0, vx), (1, vy)] = some cells)
    (h : K (a.put o.dst (.agg cells)) w) : o.wp P a w K Q := by
  have e : (#[(0, x), (1, y)].map fun (i, x) => (i, a.eval x)).toList = [(0, a.eval x), (1, a.eval y)] := by simp
  refine wp_build t #[(0, x), (1, y)] ho ?_ ?_
  · rw [e, hx, hy, hf]; rfl
  · rw [e, hx, hy, hf]; exact h

theorem made_zeros (A : List AX) : madeCells #[.int .i64 0] A.length = dsV (zerosL A) := by
  have hz : zerosL A = List.replicate A.length 0 := by unfold zerosL; rw [List.map_const']
  rw [hz]
  apply Array.ext
  · rw [size_madeCells]; simp [dsV]
  · intro i h1 h2
    simp [madeCells, dsV, Nat.mod_one]
set_option maxRecDepth 100000 in
theorem comb_any (ao : Option Addr) (n cap : Nat) (w : World) : Calls Tryz.prog 25 #[.slice ao n cap] w fun e w' => e = .returned (.func (.func 56) #[] #[.pointer (some ⟨w.heap.size, 0, none⟩)]) ∧ w' = w.alloc (.cells #[.slice ao n cap] 22 (0, 0)) := by
  go_enter Tryz.func25, Tryz.ntmps25
  go_wp2_with fail
  go_ret
  exact ⟨rfl, rfl⟩

/-- the law over the combinations that are still to come -/
structure CombJ (A : List AX) (l p1 : Nat) (Wa Wc : World) (ao : Option Addr) (cap : Nat) (J : Nat → List (List VR) → World → Prop) : Prop where
  h0 : ∀ ab R W, J ab R W → Below Wa.heap.size Wa W
  h1 : ∀ ab R W, J ab R W → W.heap[p1]? = some (.cells #[.slice ao A.length cap] 22 (0, 0))
  hG : ∀ ab R W W', J ab R W → Below W.heap.size W W' → J ab R W'
  hS : ∀ ab R W W' o, Wc.heap.size ≤ ab → J ab R W → Wrote ab o W W' → J ab R W'
  hY : ∀ ab c R W1 W v, Wc.heap.size ≤ ab → ab < W1.heap.size → J ab (c :: R) W1 → Below W1.heap.size W1 W → EVar.Row (fun b => b < Wa.heap.size ∨ W1.heap.size ≤ b) W c v →
    YieldAt Fence.wide 0 Tryz.prog l #[v] W fun e W' => e = .returned (.bool true) ∧ J ab R W' ∧ W.heap.size ≤ W'.heap.size ∧ W'.heap[ab]? = W.heap[ab]?
  hI : ∀ ab W, Wc.heap.size ≤ ab → Below Wc.heap.size Wc W → J ab (combsF A) W
def CiRel (A : List AX) (J : Nat → List (List VR) → World → Prop) (ab : Nat) (f : Nat) (_ : Value) (wr : World) : Prop :=
  ∃ ds, InC A ds ∧ f = (fromC A ds).length ∧ wr.heap[ab]? = some (.cells (dsV ds) 3 (0, 0)) ∧ J ab (fromC A ds) wr
def CwRel (c : List VR) (Wa W1 : World) (f : Nat) (t20 t4 : Value) (wr : World) : Prop :=
  ∃ i : Nat, t20 = .int .i64 (i : Nat) ∧ i ≤ c.length ∧ f = c.length - i ∧ EVar.Own 48 W1.heap.size (fun q => q < Wa.heap.size) wr (c.take i) t4 ∧ Below W1.heap.size W1 wr
def CdRel (A : List AX) (ds : List Nat) (J : Nat → List (List VR) → World → Prop) (ab : Nat) (R : List (List VR)) (f : Nat) (t7 : Value) (wr : World) : Prop :=
  ∃ (k : Nat) (z : Int), t7 = .int .i64 z ∧ z = (k : Int) - 1 ∧ k ≤ A.length ∧ f = k ∧ wr.heap[ab]? = some (.cells (dsV (ds.take k ++ zerosL (A.drop k))) 3 (0, 0)) ∧ stepC (A.drop k) (ds.drop k) = none ∧ J ab R wr

set_option maxRecDepth 100000 in
set_option maxHeartbeats 6400000 in
theorem comb1_any (A : List AX) (l p1 : Nat) (Wa Wc : World) (ao : Option Addr) (cap : Nat) (J : Nat → List (List VR) → World → Prop) (hJ : CombJ A l p1 Wa Wc ao cap J)
    (hA8 : A.length ≤ 8) (hlv : ∀ a ∈ A, a.2.length ≤ 1024) (hA : EAx.Row (fun b => b < Wa.heap.size) Wa A (.slice ao A.length cap)) :
    Calls Tryz.prog 56 #[.func (.yield l) #[] #[], .pointer (some ⟨p1, 0, none⟩)] Wc fun e W' => (∃ v, e = .returned v) ∧ ∃ ab, J ab [] W' := by
  have HJ := Lib.hid hJ
  have HA := Lib.hid hA
  have HLV := Lib.hid hlv
  have hj0 := hJ.hI Wc.heap.size Wc (Nat.le_refl _) (Below.refl _ _)
  have hbx : ∀ ab R W, J ab R W → W.cell? ⟨p1, 0, none⟩ = some (.slice ao A.length cap) := fun ab R W h => cell_of_blk (hJ.h1 ab R W h) 0
  have HBX := Lib.hid hbx
  have b0 := hbx _ _ _ hj0
  have CF : Hid (Calls Tryz.prog 36 #[.slice ao A.length cap, .func (.func 57) #[] #[]] Wc fun e w' => e = .returned (.bool (A.any (fun a => decide (a.2.length = 0)))) ∧ Below Wc.heap.size Wc w') :=
    acontf_any 57 #[] (fun a => decide (a.2.length = 0)) A _ (fun b => b < Wa.heap.size) (by omega) Wc (hA.below (hJ.h0 _ _ _ hj0)) (fun k hk cs W' hW' hR => by
      obtain ⟨lo, lc, rfl, _⟩ := eax_two hR
      exact comb11_any _ _ _ _ W') comb11Enters
  clear hA hlv hbx hJ hj0
  by_cases h0 : A = []
  · have t0 : (((A.length : Nat) : Int) == 0) = true := by rw [h0]; rfl
    have HE : Hid (combsF A = []) := combs_empty (.inl h0)
    clear CF h0
    as_aux_lemma =>
    go_enter Tryz.func56, Tryz.ntmps56
    go_step3
    go_wp2_with fail
    simp only [Exit.noGoto_ret]
    refine bodyPost_ret (results_none rfl _ _ _) rfl ?_
    exact ⟨⟨_, rfl⟩, Wc.heap.size, by have := HJ.out.hI Wc.heap.size Wc (Nat.le_refl _) (Below.refl _ _); rw [HE.out] at this; exact this⟩
  have t0 : (((A.length : Nat) : Int) == 0) = false := by rw [beq_eq_false_iff_ne]; have := List.length_pos_iff.2 h0; omega
  cases hemp : A.any (fun a => decide (a.2.length = 0)) with
  | true =>
    rw [hemp] at CF
    have HE : Hid (combsF A = []) := combs_empty (.inr hemp)
    clear h0 hemp
    as_aux_lemma =>
    go_enter Tryz.func56, Tryz.ntmps56
    go_step3
    go_wp2_with fail
    refine CF.out.mono ?_
    rintro e w3 ⟨rfl, hb3⟩
    have HB3 := Lib.hid hb3
    clear CF hb3
    go_wp2_with fail
    simp only [Exit.noGoto_ret]
    refine bodyPost_ret (results_none rfl _ _ _) rfl ?_
    exact ⟨⟨_, rfl⟩, Wc.heap.size, by have := HJ.out.hI Wc.heap.size w3 (Nat.le_refl _) HB3.out; rw [HE.out] at this; exact this⟩
  | false =>
    rw [hemp] at CF
    have HF := Lib.hid (combs_full h0 hemp)
    have HIN := Lib.hid (full_in hemp)
    have HPOS : Hid (0 < A.length) := List.length_pos_iff.2 h0
    have hmk := run_make_row' (P := Tryz.prog) 79 3 (.int .i64 0) 8 Tryz.underlying79 Tryz.info3M rfl .i64 .i64 A.length (by omega) (by omega)
    obtain ⟨O, hO⟩ : ∃ O, O = Obj.cells (madeCells #[.int .i64 0] A.length) 3 (0, 0) := ⟨_, rfl⟩
    have hmk2 : ∀ W : World, (Instr.makeSlice 79 (.int .i64 (A.length : Int)) (.int .i64 (A.length : Int))).run Tryz.prog W = .ok (.slice (some ⟨W.heap.size, 0, none⟩) A.length A.length) (W.alloc O) := fun W => by rw [hO]; exact hmk W
    have HO : Hid (O = .cells (dsV (zerosL A)) 3 (0, 0)) := by
      unfold Hid
      rw [hO, made_zeros]
    clear hmk hO h0 hemp
    go_enter Tryz.func56, Tryz.ntmps56
    go_step3
    go_wp2_with fail
    refine CF.out.mono ?_
    rintro e w3 ⟨rfl, hb3⟩
    have HB3 := Lib.hid hb3
    have hj3 := HJ.out.hI w3.heap.size w3 hb3.size hb3
    have b3 := HBX.out _ _ _ hj3
    have HLE : Hid (Wc.heap.size ≤ w3.heap.size) := hb3.size
    have HJ3 := Lib.hid hj3
    clear CF hb3 b0 hj3
    go_wp2_with fail
    obtain ⟨w4, hw4⟩ : ∃ w4, w3.alloc O = w4 := ⟨_, rfl⟩
    rw [hw4]
    have hk4 : w4.heap[w3.heap.size]? = some (.cells (dsV (zerosL A)) 3 (0, 0)) := by rw [← hw4, HO.out]; exact hp_new rfl
    have HJ4 := Lib.hid (HJ.out.hG _ _ _ w4 HJ3.out (by rw [← hw4]; exact (Below.refl _ w3).alloc (Nat.le_refl _) _))
    have HK4 := Lib.hid hk4
    clear hk4 hw4 HJ3 hmk2 HO b3
    generalize w3.heap.size = ab at *
    go_step3
    go_wp2_with fail
    go_loopg [4] (fromC A (zerosL A)).length (CiRel A J ab)
    case atStart => exact ⟨zerosL A, HIN.out, rfl, HK4.out, by have := HJ4.out; rw [HF.out] at this; exact this⟩
    case round =>
      obtain ⟨ds, hin, rfl, hk, hj⟩ := hrel
      have HDL := Lib.hid (inC_len hin)
      have HPL := Lib.hid (pick_len hin)
      have HPA := Lib.hid (fun i h1 h2 h3 => pick_at hin i h1 h2 h3)
      have HDA := Lib.hid (fun i h1 h2 => inC_at hin i h1 h2)
      have HKD := Lib.hid hk
      have HFS := Lib.hid (from_rest hin)
      have hjr := hj
      rw [HFS.out] at hjr
      have HJR := Lib.hid hjr
      have HSI := Lib.hid (fun e (h : stepC A ds = some e) => step_in hin h)
      have HSE := Lib.hid (step_end A ds (inC_len hin))
      have HABL : Hid (ab < wr.heap.size) := (Array.getElem?_eq_some_iff.1 hk).1
      have bx := HBX.out _ _ _ hj
      have HINW := Lib.hid hin
      clear hin hk hj hjr HK4 HJ4 HF HIN
      obtain ⟨c, hc⟩ : ∃ c, pickC A ds = c := ⟨_, rfl⟩
      rw [hc] at HPL HPA HJR HFS
      clear hc
      obtain ⟨iV, hiV, hzV, hnV, hyV⟩ := Tryz.vinfoVar'
      have HI := Lib.hid hiV
      clear hiV
      obtain ⟨w5, hw5⟩ : ∃ w5 : World, w5 = wr := ⟨_, rfl⟩
      subst hw5
      have HR0 : Hid (stepC A ds = none → restC A ds = []) := rest_none
      have HR1 : Hid (∀ e, stepC A ds = some e → restC A ds = fromC A e) := fun e => rest_some
      generalize restC A ds = R at *
      have HBA : Hid (Below Wa.heap.size Wa w5) := HJ.out.h0 _ _ _ HJR.out
      as_aux_lemma =>
      go_wp2_with fail
      go_loopg [20, 4] c.length (CwRel c Wa w5)
      case atStart => exact ⟨0, rfl, Nat.zero_le _, rfl, .nil, Below.refl _ _⟩
      case round =>
        obtain ⟨i, rfl, hi, rfl, ho, hbel⟩ := hrel
        have HB := Lib.hid hbel
        have HTL : Hid ((c.take i).length = i) := by unfold Hid; rw [List.length_take]; omega
        obtain ⟨vo, vc, rfl⟩ := ho.form
        rw [HTL.out] at ho ⊢
        have HO := Lib.hid ho
        have hws : w5.heap.size ≤ wr.heap.size := hbel.size
        clear ho hbel
        by_cases hlt : i < c.length
        · have hiA : i < A.length := by rw [← HPL.out]; exact hlt
          have hii : (i : Int) < (A.length : Int) := by omega
          have hid2 : i < ds.length := by rw [HDL.out]; exact hiA
          have hBW := HBA.out.trans (HB.out.mono HBA.out.size)
          obtain ⟨bl, off, a1, c1, rfl, hbl, e0, e1, hvr⟩ := eax_at (HA.out.below hBW) hiA
          have hd := HDA.out i hiA hid2
          obtain ⟨bv, ov, cv, rfl, hbva, hbv, hcv, hRv⟩ := hvr.at hd
          have hdd : ((ds[i] : Nat) : Int) < ((A[i].2.length : Nat) : Int) := by omega
          have hk1 := (HB.out.block ab HABL.out).trans HKD.out
          have qd : wr.cell? ⟨ab, i, none⟩ = some (.int .i64 (ds[i] : Nat)) := (cell_of_blk hk1 i).trans (dsV_at hid2)
          have hci : c[i] = (A[i].1, A[i].2[ds[i]]) := by
            rw [HPA.out i hiA hid2 hlt, List.getD, List.getElem?_eq_getElem hd]; rfl
          have HTK : Hid (c.take i ++ [(A[i].1, A[i].2[ds[i]])] = c.take (i + 1)) := by unfold Hid; rw [List.take_succ_eq_append_getElem hlt, hci]
          have HVB0 := Lib.hid hRv
          obtain ⟨lo1, lc1, ko1, kc1, rfl⟩ := vcellB_slices hRv
          have HC : ∀ (j : Nat) u, [Value.int .i64 A[i].2[ds[i]].kind, .bool A[i].2[ds[i]].bool, .int .i64 A[i].2[ds[i]].int, .string A[i].2[ds[i]].str, .slice lo1 A[i].2[ds[i]].list.length lc1, .slice ko1 A[i].2[ds[i]].keys.length kc1][j]? = some u → wr.cell? ⟨bv, ov + ds[i] * 6 + j, none⟩ = some u := fun j u hu => hcv j u hu
          clear hvr hRv hcv hk1 hci
          generalize A[i].2[ds[i]] = y at *
          clear hd
          obtain ⟨W6, hW6⟩ : ∃ W6, wr.alloc (.cells #[.string A[i].1, .slice (some ⟨bv, ov, none⟩) A[i].2.length c1] 50 (0, 0)) = W6 := ⟨_, rfl⟩
          have hk6 : W6.heap[wr.heap.size]? = some (.cells #[.string A[i].1, .slice (some ⟨bv, ov, none⟩) A[i].2.length c1] 50 (0, 0)) := by rw [← hW6]; exact hp_new rfl
          have hb6 : Below wr.heap.size wr W6 := by rw [← hW6]; exact (Below.refl _ wr).alloc (Nat.le_refl _) _
          have HB6 := Lib.hid (HB.out.trans (hb6.mono HB.out.size))
          have habw : ab < wr.heap.size := Nat.lt_of_lt_of_le HABL.out hws
          have h6s := hb6.size
          have hl6 : wr.heap.size < W6.heap.size := (Array.getElem?_eq_some_iff.1 hk6).1
          generalize A[i].1 = nm at *
          generalize A[i].2.length = nv at *
          generalize ds[i] = d at *
          have HS : Hid (∀ W', Below W6.heap.size W6 W' → W'.cell? ⟨wr.heap.size, 0, none⟩ = some (.string nm) ∧ W'.cell? ⟨wr.heap.size, 1, none⟩ = some (.slice (some ⟨bv, ov, none⟩) nv c1) ∧ W'.cell? ⟨ab, i, none⟩ = some (.int .i64 (d : Nat)) ∧ W'.cell? ⟨bv, ov + d * 6, none⟩ = some (.int .i64 y.kind) ∧ W'.cell? ⟨bv, ov + d * 6 + 1, none⟩ = some (.bool y.bool) ∧ W'.cell? ⟨bv, ov + d * 6 + 2, none⟩ = some (.int .i64 y.int) ∧ W'.cell? ⟨bv, ov + d * 6 + 3, none⟩ = some (.string y.str) ∧ W'.cell? ⟨bv, ov + d * 6 + 4, none⟩ = some (.slice lo1 y.list.length lc1) ∧ W'.cell? ⟨bv, ov + d * 6 + 5, none⟩ = some (.slice ko1 y.keys.length kc1)) := fun W' hW => by
            have q := (hW.block _ hl6).trans hk6
            have g : ∀ (j : Nat) u, [Value.int .i64 y.kind, .bool y.bool, .int .i64 y.int, .string y.str, .slice lo1 y.list.length lc1, .slice ko1 y.keys.length kc1][j]? = some u → W'.cell? ⟨bv, ov + d * 6 + j, none⟩ = some u := fun j u hu => (hW.cell (p := ⟨bv, ov + d * 6 + j, none⟩) (Nat.lt_of_lt_of_le hbv h6s)).trans ((hb6.cell (p := ⟨bv, ov + d * 6 + j, none⟩) hbv).trans (HC j u hu))
            exact ⟨cell_of_blk q 0, cell_of_blk q 1, (hW.cell (p := ⟨ab, i, none⟩) (Nat.lt_of_lt_of_le habw h6s)).trans ((hb6.cell (p := ⟨ab, i, none⟩) habw).trans qd), g 0 _ rfl, g 1 _ rfl, g 2 _ rfl, g 3 _ rfl, g 4 _ rfl, g 5 _ rfl⟩
          have HVB : Hid (∀ W', Below wr.heap.size wr W' → VCellB (fun b => b < Wa.heap.size) W' y [.int .i64 y.kind, .bool y.bool, .int .i64 y.int, .string y.str, .slice lo1 y.list.length lc1, .slice ko1 y.keys.length kc1]) := fun W' hb => VCellB.keep hb.size (fun b _ hl => hb.block b hl) _ _ HVB0.out
          have HLOW := Lib.hid HO.out.low
          have HO6 := Lib.hid (HO.out.below hb6)
          have HBW6 := Lib.hid hb6
          clear HVB0 HC hk6 hb6 HO HDA HPA
          as_aux_lemma =>
          go_upto_region 6 with fail
          clear e0 e1 qd hW6
          have HDR : Hid (Below W6.heap.size W6 W6.drew) := (Below.refl _ W6).drew
          refine wp_region_Z (S := fun W' : World => W'.cell? ⟨wr.heap.size, 0, none⟩ = some (.string nm) ∧ W'.cell? ⟨wr.heap.size, 1, none⟩ = some (.slice (some ⟨bv, ov, none⟩) nv c1) ∧ W'.cell? ⟨ab, i, none⟩ = some (.int .i64 (d : Nat)) ∧ W'.cell? ⟨bv, ov + d * 6, none⟩ = some (.int .i64 y.kind) ∧ W'.cell? ⟨bv, ov + d * 6 + 1, none⟩ = some (.bool y.bool) ∧ W'.cell? ⟨bv, ov + d * 6 + 2, none⟩ = some (.int .i64 y.int) ∧ W'.cell? ⟨bv, ov + d * 6 + 3, none⟩ = some (.string y.str) ∧ W'.cell? ⟨bv, ov + d * 6 + 4, none⟩ = some (.slice lo1 y.list.length lc1) ∧ W'.cell? ⟨bv, ov + d * 6 + 5, none⟩ = some (.slice ko1 y.keys.length kc1)) 14 (by kernel_rfl) (HS.out _ HDR.out) (fun hHeld => ?_)
          refine wpAnyZ_takeL (i := 0) (v := ?_) rfl (by kernel_rfl) (by kernel_rfl) (by kernel_rfl) (by kernel_rfl) (fun _ _ _ h => h) (Or.inl ⟨by rfl, ?_⟩) (by assumption) ?_
          rotate_left
          · (intro w hSw; (try dsimp only at hSw); go_simp; try with_reducible rfl)
          try simp only [Act.put, List.setIfInBounds_toArray, List.set_cons_zero, List.set_cons_succ]
          refine wpAnyZ_takeL (i := 1) (v := ?_) rfl (by kernel_rfl) (by kernel_rfl) (by kernel_rfl) (by kernel_rfl) (fun _ _ _ h => h) (Or.inl ⟨by rfl, ?_⟩) (by assumption) ?_
          rotate_left
          · (intro w hSw; (try dsimp only at hSw); go_simp; try with_reducible rfl)
          try simp only [Act.put, List.setIfInBounds_toArray, List.set_cons_zero, List.set_cons_succ]
          refine wpAnyZ_takeL (i := 2) (v := ?_) rfl (by kernel_rfl) (by kernel_rfl) (by kernel_rfl) (by kernel_rfl) (fun _ _ _ h => h) (Or.inl ⟨by rfl, ?_⟩) (by assumption) ?_
          rotate_left
          · (intro w hSw; (try dsimp only at hSw); go_simp; try with_reducible rfl)
          try simp only [Act.put, List.setIfInBounds_toArray, List.set_cons_zero, List.set_cons_succ]
          refine wpAnyZ_takeL (i := 3) (v := ?_) rfl (by kernel_rfl) (by kernel_rfl) (by kernel_rfl) (by kernel_rfl) (fun _ _ _ h => h) (Or.inl ⟨by rfl, ?_⟩) (by assumption) ?_
          rotate_left
          · (intro w hSw; (try dsimp only at hSw); go_simp; try with_reducible rfl)
          try simp only [Act.put, List.setIfInBounds_toArray, List.set_cons_zero, List.set_cons_succ]
          refine wpAnyZ_takeL (i := 4) (v := ?_) rfl (by kernel_rfl) (by kernel_rfl) (by kernel_rfl) (by kernel_rfl) (fun _ _ _ h => h) (Or.inl ⟨by rfl, ?_⟩) (by assumption) ?_
          rotate_left
          · (intro w hSw; (try dsimp only at hSw); go_simp; try with_reducible rfl)
          try simp only [Act.put, List.setIfInBounds_toArray, List.set_cons_zero, List.set_cons_succ]
          refine wpAnyZ_takeL (i := 5) (v := ?_) rfl (by kernel_rfl) (by kernel_rfl) (by kernel_rfl) (by kernel_rfl) (fun _ _ _ h => h) (Or.inl ⟨by rfl, ?_⟩) (by assumption) ?_
          rotate_left
          · (intro w hSw; (try dsimp only at hSw); go_simp; try with_reducible rfl)
          try simp only [Act.put, List.setIfInBounds_toArray, List.set_cons_zero, List.set_cons_succ]
          refine wpAnyZ_takeL (i := 6) (v := ?_) rfl (by kernel_rfl) (by kernel_rfl) (by kernel_rfl) (by kernel_rfl) (fun _ _ _ h => h) (Or.inl ⟨by rfl, ?_⟩) (by assumption) ?_
          rotate_left
          · (intro w hSw; (try dsimp only at hSw); go_simp; try with_reducible rfl)
          try simp only [Act.put, List.setIfInBounds_toArray, List.set_cons_zero, List.set_cons_succ]
          refine wpAnyZ_takeL (i := 7) (v := ?_) rfl (by kernel_rfl) (by kernel_rfl) (by kernel_rfl) (by kernel_rfl) (fun _ _ _ h => h) (Or.inl ⟨by rfl, ?_⟩) (by assumption) ?_
          rotate_left
          · (intro w hSw; (try dsimp only at hSw); go_simp; try with_reducible rfl)
          try simp only [Act.put, List.setIfInBounds_toArray, List.set_cons_zero, List.set_cons_succ]
          refine wpAnyZ_takeL (i := 8) (v := ?_) rfl (by kernel_rfl) (by kernel_rfl) (by kernel_rfl) (by kernel_rfl) (fun _ _ _ h => h) (Or.inl ⟨by rfl, ?_⟩) (by assumption) ?_
          rotate_left
          · (intro w hSw; (try dsimp only at hSw); go_simp; try with_reducible rfl)
          try simp only [Act.put, List.setIfInBounds_toArray, List.set_cons_zero, List.set_cons_succ]
          refine wpAnyZ_takeL (i := 9) (v := ?_) rfl (by kernel_rfl) (by kernel_rfl) (by kernel_rfl) (by kernel_rfl) (fun _ _ _ h => h) (Or.inl ⟨by rfl, ?_⟩) (by assumption) ?_
          rotate_left
          · (intro w hSw; (try dsimp only at hSw); go_simp; try with_reducible rfl)
          try simp only [Act.put, List.setIfInBounds_toArray, List.set_cons_zero, List.set_cons_succ]
          refine wpAnyZ_takeL (i := 10) (v := ?_) rfl (by kernel_rfl) (by kernel_rfl) (by kernel_rfl) (by kernel_rfl) (fun _ _ _ h => h) (Or.inl ⟨by rfl, ?_⟩) (by assumption) ?_
          rotate_left
          · (intro w hSw; (try dsimp only at hSw); go_simp; try with_reducible rfl)
          try simp only [Act.put, List.setIfInBounds_toArray, List.set_cons_zero, List.set_cons_succ]
          obtain ⟨wd, hwd⟩ : ∃ wd, W6.drew = wd := ⟨_, rfl⟩
          rw [hwd] at HDR ⊢
          refine wpAnyZ_oneL (i := 11) (by kernel_rfl) rfl (fun K hK => ?_)
          rw [if_pos (by rfl)]
          refine wp_build2M 48 (.tmp 27) (.tmp 35) rfl _ _ rfl rfl #[.string nm, .int .i64 y.kind, .bool y.bool, .int .i64 y.int, .string y.str, .slice lo1 y.list.length lc1, .slice ko1 y.keys.length kc1] (Tryz.built_var _ _ _ _ _ _ _) ?_
          refine hK.out _ _ (fun _ => HS.out _ HDR.out) (fun hHeld => ?_)
          replace hHeld := hHeld (by decide)
          clear hK K
          try simp only [Act.put, List.setIfInBounds_toArray, List.set_cons_zero, List.set_cons_succ]
          refine wpAnyZ_oneL (i := 12) (by kernel_rfl) rfl (fun K hK => ?_)
          rw [if_pos (by rfl)]
          refine wp_build1 36 48 (.tmp 36) rfl #[.string nm, .int .i64 y.kind, .bool y.bool, .int .i64 y.int, .string y.str, .slice lo1 y.list.length lc1, .slice ko1 y.keys.length kc1] iV _ Tryz.underlying36 HI.out hzV 7 hnV (by decide) (by decide) rfl rfl ?_
          obtain ⟨W7, hW7⟩ : ∃ W7, wd.alloc (.cells #[.string nm, .int .i64 y.kind, .bool y.bool, .int .i64 y.int, .string y.str, .slice lo1 y.list.length lc1, .slice ko1 y.keys.length kc1] 48) = W7 := ⟨_, rfl⟩
          have hk7 : W7.heap[wd.heap.size]? = some (.cells #[.string nm, .int .i64 y.kind, .bool y.bool, .int .i64 y.int, .string y.str, .slice lo1 y.list.length lc1, .slice ko1 y.keys.length kc1] 48 (0, 0)) := by rw [← hW7]; exact hp_new rfl
          have HB7 : Hid (Below W6.heap.size W6 W7) := by unfold Hid; rw [← hW7]; exact HDR.out.alloc HDR.out.size _
          have HO7 : Hid (EVar.Own 48 w5.heap.size (fun q => q < Wa.heap.size) W7 (c.take i) (.slice vo i vc)) := HO6.out.below HB7.out
          rw [hW7]
          clear hW7
          refine hK.out _ _ (fun _ => HS.out _ HB7.out) (fun hHeld => ?_)
          replace hHeld := hHeld (by decide)
          clear hK K
          try simp only [Act.put, List.setIfInBounds_toArray, List.set_cons_zero, List.set_cons_succ]
          have HX7 : Hid (EVar.R (fun q => q < Wa.heap.size ∧ (Value.slice vo i vc).ownBlock ≠ some q) W7 (nm, y) [.string nm, .int .i64 y.kind, .bool y.bool, .int .i64 y.int, .string y.str, .slice lo1 y.list.length lc1, .slice ko1 y.keys.length kc1]) := evar_mk (VCellB.mono (fun q hq => ⟨hq, fun e => by have h1 := (HO7.out.low q e).1; have h2 := HBA.out.size; omega⟩) _ _ (HVB.out W7 (HBW6.out.trans (HB7.out.mono HBW6.out.size))))
          have hz7 := HB7.out.size
          have hz6 := HB6.out.size
          have hzd := HDR.out.size
          refine wpAnyZ_oneL (i := 13) (by kernel_rfl) rfl (fun K hK => ?_)
          rw [if_pos (by rfl)]
          refine wp_own_push (E := EVar) (.tmp 25) (.tmp 37) 36 rfl w5.heap.size 48 iV _ 104 Tryz.underlying36 HI.out hzV hnV hyV rfl _ (.slice vo i vc) rfl HO7.out (nm, y) [.string nm, .int .i64 y.kind, .bool y.bool, .int .i64 y.int, .string y.str, .slice lo1 y.list.length lc1, .slice ko1 y.keys.length kc1] HX7.out wd.heap.size (0, 0) hk7 rfl (by rw [HTL.out]; unfold maxLen; omega) (by rw [HTL.out]; omega) (by omega) ?_
          intro v8 w8 hown hgrow hpu
          obtain ⟨g8, p8, hv8⟩ := hpu.form
          rw [HTL.out] at hv8
          subst hv8
          rw [HTK.out] at hown
          have HB8 : Hid (Below w5.heap.size w5 w8) := (HB6.out.trans (HB7.out.mono HB6.out.size)).trans (below_grown hgrow (by omega) (fun q e => (HO7.out.low q e).1))
          have HOW := Lib.hid hown
          have HS8 : Hid (w8.cell? ⟨wr.heap.size, 0, none⟩ = some (.string nm) ∧ w8.cell? ⟨wr.heap.size, 1, none⟩ = some (.slice (some ⟨bv, ov, none⟩) nv c1) ∧ w8.cell? ⟨ab, i, none⟩ = some (.int .i64 (d : Nat)) ∧ w8.cell? ⟨bv, ov + d * 6, none⟩ = some (.int .i64 y.kind) ∧ w8.cell? ⟨bv, ov + d * 6 + 1, none⟩ = some (.bool y.bool) ∧ w8.cell? ⟨bv, ov + d * 6 + 2, none⟩ = some (.int .i64 y.int) ∧ w8.cell? ⟨bv, ov + d * 6 + 3, none⟩ = some (.string y.str) ∧ w8.cell? ⟨bv, ov + d * 6 + 4, none⟩ = some (.slice lo1 y.list.length lc1) ∧ w8.cell? ⟨bv, ov + d * 6 + 5, none⟩ = some (.slice ko1 y.keys.length kc1)) := by
            have hs7 := HS.out _ HB7.out
            have hk : ∀ (b o : Nat) (u : Value), b < W7.heap.size → (Value.slice vo i vc).ownBlock ≠ some b → W7.cell? ⟨b, o, none⟩ = some u → w8.cell? ⟨b, o, none⟩ = some u := fun b o u h1 h2 h3 => (World.cell?_of_block (a := ⟨b, o, none⟩) (hgrow.block b h1 (fun e => h2 e.symm))).trans h3
            have n1 : (Value.slice vo i vc).ownBlock ≠ some wr.heap.size := fun e => by have := (HLOW.out _ e).2; omega
            have n2 : (Value.slice vo i vc).ownBlock ≠ some ab := fun e => by have := (HLOW.out _ e).1; have := HABL.out; omega
            have n3 : (Value.slice vo i vc).ownBlock ≠ some bv := fun e => by have := (HLOW.out _ e).1; have := HBA.out.size; omega
            obtain ⟨s0, s1, s2, s3, s4, s5, s6, s7, s8⟩ := hs7
            exact ⟨hk _ _ _ (by omega) n1 s0, hk _ _ _ (by omega) n1 s1, hk _ _ _ (by omega) n2 s2, hk _ _ _ (by omega) n3 s3, hk _ _ _ (by omega) n3 s4, hk _ _ _ (by omega) n3 s5, hk _ _ _ (by omega) n3 s6, hk _ _ _ (by omega) n3 s7, hk _ _ _ (by omega) n3 s8⟩
          clear hown hgrow hpu HX7 HO7 HO6 hk7
          refine hK.out _ _ (fun _ => HS8.out) (fun hHeld => ?_)
          replace hHeld := hHeld (by decide)
          clear hK K
          try simp only [Act.put, List.setIfInBounds_toArray, List.set_cons_zero, List.set_cons_succ]
          refine wpAnyZ_oneL (i := 14) (by kernel_rfl) rfl (fun K hK => ?_)
          go_simp
          refine hK.out _ _ (fun h => absurd h (by decide)) (fun _ => ?_)
          clear hK K
          try simp only [Act.put, List.setIfInBounds_toArray, List.set_cons_zero, List.set_cons_succ]
          refine wpAnyZ_done (by kernel_rfl) ?_ _
          clear hHeld
          go_wp2_with fail
          go_roundg (c.length - (i + 1))
          case measure => omega
          case rel => exact ⟨i + 1, by go_num, by omega, rfl, HOW.out, HB8.out⟩
        · have hii : ¬ (i : Int) < (A.length : Int) := by have := HPL.out; omega
          have he : i = c.length := by omega
          subst he
          have hrow : EVar.Row (fun b => b < Wa.heap.size ∨ w5.heap.size ≤ b) wr c (.slice vo c.length vc) := by
            have := HO.out.row (B' := fun b => b < Wa.heap.size ∨ w5.heap.size ≤ b) (fun _ h => .inl h) (fun _ h => .inr h)
            rwa [List.take_length] at this
          obtain ⟨fn, tmps, assign, body, hy, hR⟩ := yield_wide (m := 10 - 1) (HJ.out.hY ab c R w5 wr _ HLE.out HABL.out HJR.out HB.out hrow)
          have HRM := Lib.hid hR
          have HKB := Lib.hid ((HB.out.block ab HABL.out).trans HKD.out)
          clear hrow hR HO HPA HDA HI HJR HKD
          go_upto_region 8 with fail
          refine (wpIn_wide (n := 10)).1 ?_
          gi_wp2_with fail
          refine HRM.out.mono ?_
          clear HRM hy
          rintro e w6 ⟨rfl, hj6, hsz6, hab6⟩
          have HK6 := Lib.hid (hab6.trans HKB.out)
          have b6 := HBX.out _ _ _ hj6
          have HJ6 := Lib.hid hj6
          have q1 : IntKind.i64.wrap ((A.length : Int) - 1) = (A.length : Int) - 1 := IntWalk.i64_in _ (by omega)
          clear hj6 hab6 HKB hsz6 bx HB hws hlt hii
          gi_wp2_with fail
          go_wp2_with fail
          clear b6
          go_loopg [7] A.length (CdRel A ds J ab R)
          case atStart => exact ⟨A.length, _, rfl, by omega, Nat.le_refl _, rfl, by rw [List.drop_length, ← HDL.out, List.take_length]; show w6.heap[ab]? = some (Obj.cells (dsV (ds ++ [])) 3 (0, 0)); rw [List.append_nil]; exact HK6.out, HSE.out, HJ6.out⟩
          case round =>
            obtain ⟨k, z, rfl, hz, hkA, rfl, hkk, hst, hj⟩ := hrel
            have HJW := Lib.hid hj
            have HKW := Lib.hid hkk
            clear hj hkk HK6 HJ6
            cases gk with
            | zero =>
              obtain rfl : z = -1 := by omega
              clear hz
              have tneg : decide ((0 : Int) ≤ -1) = false := rfl
              have hs0 : stepC A ds = none := hst
              have hR0 : R = [] := HR0.out hs0
              rw [hR0] at HJW
              clear hst hs0 hR0 HR0 HR1
              as_aux_lemma =>
              go_wp2_with fail
              try simp only [Exit.noGoto_ret]
              refine bodyPost_ret (results_none rfl _ _ _) rfl ?_
              exact ⟨⟨_, rfl⟩, ab, HJW.out⟩
            | succ i =>
              obtain rfl : z = (i : Int) := by omega
              clear hz
              have hid2 : i < ds.length := by rw [HDL.out]; exact hkA
              have t7 : (0 : Int) ≤ (i : Int) := by omega
              have hii : (i : Int) < (A.length : Int) := by omega
              have hlen : ((dsV (ds.take (i + 1) ++ zerosL (A.drop (i + 1)))).size : Nat) = A.length := by
                unfold dsV; simp [zeros_len, HDL.out]; omega
              have qd : wr.cell? ⟨ab, i, none⟩ = some (.int .i64 (ds[i] : Nat)) := (cell_of_blk HKW.out i).trans (dsV_mid ds i _ hid2)
              have qf : wr.frozen? ⟨ab, i, none⟩ = false := free_of_blk HKW.out i
              have hx1024 := HLV.out _ (List.getElem_mem hkA)
              have HDA' := Lib.hid (inC_at HINW.out i hkA hid2)
              have hdle : ds[i] ≤ 1024 := by have := HDA'.out; omega
              have HSA := Lib.hid (step_at i hkA hid2 hst)
              have hw1 := wrote_setCell HKW.out i (.int .i64 ((ds[i] + 1 : Nat) : Int))
              rw [dsV_set, set_mid ds i (ds[i] + 1) _ hid2] at hw1
              have hcast : ((ds[i] + 1 : Nat) : Int) = (ds[i] : Int) + 1 := by omega
              rw [hcast] at hw1
              have hk7 := hw1.at_
              have hj7 := HJ.out.hS _ _ _ _ _ HLE.out HJW.out hw1
              have q2 : IntKind.i64.wrap ((ds[i] : Int) + 1) = (ds[i] : Int) + 1 := IntWalk.i64_in _ (by omega)
              have q3 : IntKind.i64.wrap ((i : Int) - 1) = (i : Int) - 1 := IntWalk.i64_in _ (by omega)
              obtain ⟨w7, hw7⟩ : ∃ w7, wr.setCell ⟨ab, i, none⟩ (.int .i64 ((ds[i] : Int) + 1)) = w7 := ⟨_, rfl⟩
              rw [hw7] at hk7 hj7
              have qe : w7.cell? ⟨ab, i, none⟩ = some (.int .i64 ((ds[i] : Int) + 1)) := by
                rw [cell_of_blk hk7, ← hcast]
                unfold dsV
                rw [List.getElem?_toArray, List.getElem?_map, List.getElem?_append_right (by rw [List.length_take]; omega)]
                simp [Nat.min_eq_left (Nat.le_of_lt hid2)]
              have HK7 := Lib.hid hk7
              have HJ7 := Lib.hid hj7
              have b7 := HBX.out _ _ _ hj7
              obtain ⟨bl, off, a1, c1, rfl, hbl, e0, e1, _⟩ := eax_at (HA.out.below (HJ.out.h0 _ _ _ hj7)) hkA
              have HNX : Hid (∀ ds', stepC A ds = some ds' → R = fromC A ds' ∧ InC A ds') := fun ds' h => ⟨HR1.out ds' h, HSI.out ds' h⟩
              clear hw1 hk7 hj7 hst hx1024 HDA' hlen HR0 HR1 HSI HKW HJW
              have HF7 : Hid (w7.frozen? ⟨ab, i, none⟩ = false) := free_of_blk HK7.out i
              generalize A[i].1 = nm at *
              by_cases hstep : ds[i] + 1 < A[i].2.length
              · have t8 : ((ds[i] : Int) + 1) < ((A[i].2.length : Nat) : Int) := by omega
                have HN := Lib.hid (HNX.out _ (HSA.out.1 hstep))
                generalize ds.take i ++ (ds[i] + 1) :: zerosL (A.drop (i + 1)) = ds' at *
                clear HSA HNX hstep hcast
                generalize ds[i] = d at *
                generalize A[i].2.length = nv at *
                as_aux_lemma =>
                go_upto_region 13 with fail
                clear hw7 qd qf
                go_quiet (fail)
                rename_i nq
                have HBQ := Lib.hid (below_drN w7 nq)
                generalize w7.drewN nq = w8 at *
                go_wp2_with fail
                go_roundg (fromC A ds').length
                case measure => have := congrArg List.length HFS.out; rw [HN.out.1] at this; simp at this; omega
                case rel => exact ⟨ds', HN.out.2, rfl, (HBQ.out.block ab (Array.getElem?_eq_some_iff.1 HK7.out).1).trans HK7.out, by have := HJ.out.hG _ _ _ _ HJ7.out HBQ.out; rw [HN.out.1] at this; exact this⟩
              · have t8 : decide (((ds[i] : Int) + 1) < ((A[i].2.length : Nat) : Int)) = false := decide_eq_false (by omega)
                have t8b : ¬ ((ds[i] : Int) + 1) < ((A[i].2.length : Nat) : Int) := by omega
                have hst2 := HSA.out.2 hstep
                have hw2 := fun (w8 : World) (h : Below w7.heap.size w7 w8) => wrote_setCell ((h.block ab (Array.getElem?_eq_some_iff.1 HK7.out).1).trans HK7.out) i (.int .i64 ((0 : Nat) : Int))
                have hset : (dsV (ds.take i ++ (ds[i] + 1) :: zerosL (A.drop (i + 1)))).setIfInBounds i (.int .i64 ((0 : Nat) : Int)) = dsV (ds.take i ++ zerosL (A.drop i)) := by
                  rw [dsV_set, zeros_drop hkA]
                  congr 1
                  rw [List.set_append_right _ _ (by rw [List.length_take]; omega)]
                  simp [Nat.min_eq_left (Nat.le_of_lt hid2)]
                rw [hset] at hw2
                have HW2 := Lib.hid hw2
                have HST2 := Lib.hid hst2
                clear HSA HNX hstep hcast hw2 hset hst2
                generalize ds[i] = d at *
                generalize A[i].2.length = nv at *
                as_aux_lemma =>
                go_upto_region 13 with fail
                clear hw7 qd qf
                go_quiet (fail)
                rename_i nq
                have HBQ := Lib.hid (below_drN w7 nq)
                have HWR := Lib.hid (HW2.out _ HBQ.out)
                have HJ8 := Lib.hid (HJ.out.hG _ _ _ _ HJ7.out HBQ.out)
                have qf8 : (w7.drewN nq).frozen? ⟨ab, i, none⟩ = false := free_of_blk ((HBQ.out.block ab (Array.getElem?_eq_some_iff.1 HK7.out).1).trans HK7.out) i
                have qc8 : (w7.drewN nq).cell? ⟨ab, i, none⟩ = some (.int .i64 ((d : Int) + 1)) := (HBQ.out.cell (p := ⟨ab, i, none⟩) (Array.getElem?_eq_some_iff.1 HK7.out).1).trans qe
                clear HW2 qe b7 e0 e1 HK7 HJ7 HF7
                generalize w7.drewN nq = w8 at *
                go_wp2_with fail
                go_roundg i
                case measure => omega
                case rel => exact ⟨i, _, rfl, by omega, by omega, rfl, HWR.out.at_, HST2.out, HJ.out.hS _ _ _ _ _ HLE.out HJ8.out HWR.out⟩
end Go.Proofs.YtomecnncighkgaaGreatDoor
