/- The walk over the law MatrixCounts. -/
import Derived.Test.YtomecnncighkgaaGreatDoorMl4
import Derived.Test.YtomecnncighkgaaGreatDoorMo3
import Derived.Test.YtomecnncighkgaaGreatDoorVr3m
namespace Go.Proofs.YtomecnncighkgaaGreatDoor
open Go.RowKit Go.Deep

section
variable {α : Type} {E : ElemK α} {te : TypeId} {ob : Nat} {W W7 w8 : World} {c : Array Value} {t : TypeId} {L : List α} {v v8 : Value} {y : α}
/-- a box whose list grows by one -/
theorem own_box (hk : W.heap[ob]? = some (.cells c t (0, 0))) (h2 : E.Own te (ob + 1) (fun b => ob < b) W L v) (hb7 : Below W.heap.size W W7) (hown : E.Own te (ob + 1) (fun b => ob < b) w8 (L ++ [y]) v8) (hgrow : W7.grownBy w8 v.ownBlock) (j : Nat) :
    w8.heap[ob]? = some (.cells c t (0, 0)) ∧ (w8.setCell ⟨ob, j, none⟩ v8).heap[ob]? = some (.cells (c.setIfInBounds j v8) t (0, 0)) ∧ E.Own te (ob + 1) (fun b => ob < b) (w8.setCell ⟨ob, j, none⟩ v8) (L ++ [y]) v8 ∧ Below ob W (w8.setCell ⟨ob, j, none⟩ v8) := by
  have hl := (Array.getElem?_eq_some_iff.1 hk).1
  have hno : v.ownBlock ≠ some ob := fun e => by have := (h2.low _ e).1; omega
  have hk8 : ∀ k, k < W.heap.size → v.ownBlock ≠ some k → w8.heap[k]? = W.heap[k]? := fun k h1 h4 => (hgrow.block k (Nat.lt_of_lt_of_le h1 hb7.size) (fun e => h4 e.symm)).trans (hb7.block k h1)
  have hko := (hk8 ob hl hno).trans hk
  have hw := wrote_setCell hko j v8
  have hsz := hb7.size
  refine ⟨hko, hw.at_, hown.wrote hw (fun e => by have := (hown.low _ e).1; omega) (fun c hc => by omega), hw.os.trans (hgrow.os.trans hb7.os), hw.tape.trans (hgrow.tape.trans hb7.tape), hw.output.trans (hgrow.output.trans hb7.output), ?_, fun k hkk => ?_⟩
  · rw [hw.size]; exact Nat.le_trans hb7.size hgrow.size
  · refine (hw.block k (by omega)).trans (hk8 k (by omega) fun e => ?_)
    have := (h2.low _ e).1; omega
end
theorem axsC_snoc : ∀ (l : List Nat) (s n : Nat), axsC s (l ++ [n]) = axsC s l ++ [axC n (s + l.length)]
  | [], s, n => rfl
  | a :: l, s, n => by
    rw [List.cons_append, axsC, axsC_snoc l, axsC, List.length_cons, List.cons_append, show s + 1 + l.length = s + (l.length + 1) by omega]
def noneTo (L : List Nat) (i : Nat) : Bool := decide (L.length = 0) || (L.take i).any fun n => decide (n = 0)
theorem noneTo_step {L : List Nat} {i : Nat} (hi : i < L.length) : noneTo L (i + 1) = (noneTo L i || decide (L[i] = 0)) := by
  unfold noneTo
  rw [List.take_succ_eq_append_getElem hi, List.any_append, Bool.or_assoc]
  simp
theorem noneTo_all (L : List Nat) : noneTo L L.length = noneP L := by unfold noneTo noneP; rw [List.take_length]
theorem satP_step {L : List Nat} {i : Nat} (hi : i < L.length) : satP (L.take (i + 1)) = min (satP (L.take i) * L[i]) 1000000 := by
  unfold satP
  rw [List.take_succ_eq_append_getElem hi, List.foldl_append]
  rfl
theorem satP_le (l : List Nat) : satP l ≤ 1000000 := by
  unfold satP
  have : ∀ (l : List Nat) (p : Nat), p ≤ 1000000 → l.foldl (fun p n => min (p * n) 1000000) p ≤ 1000000 := by
    intro l
    induction l with
    | nil => exact fun p h => h
    | cons a l ih => exact fun p _ => ih _ (Nat.min_le_right _ _)
  exact this l 1 (by decide)
/-- the matrix so far -/
def CoM (mb : Nat) (w : World) (l : List Nat) (wr : World) : Prop :=
  ∃ av, wr.heap[mb]? = some (.cells #[av, .slice none 0 0, .slice none 0 0] 25 (0, 0)) ∧ EAx.Own 50 (mb + 1) (fun b => mb < b) wr (axsC 0 l) av ∧ Below mb w wr
def CoRel (L : List Nat) (w : World) (f : Nat) (t4 t5 t6 : Value) (wr : World) : Prop :=
  ∃ i : Nat, t6 = .int .i64 (i : Nat) ∧ i ≤ L.length ∧ f = L.length - i ∧ t4 = .int .i64 (satP (L.take i) : Nat) ∧ t5 = .bool (noneTo L i) ∧ CoM w.heap.size w (L.take i) wr
def CnRel (n ab : Nat) (nm : ByteArray) (wq : World) (f : Nat) (t8 : Value) (wr : World) : Prop :=
  ∃ k : Nat, t8 = .int .i64 (k : Nat) ∧ k ≤ n ∧ f = n - k ∧ ∃ vv, wr.heap[ab]? = some (.cells #[.string nm, vv] 50 (0, 0)) ∧ EVal.Own 46 (ab + 1) (fun b => ab < b) wr ((List.range k).map intV) vv ∧ Below ab wq wr
theorem u8wrap : ∀ i : Fin 9, IntKind.u8.wrap (97 + (i.val : Int)) = 97 + (i.val : Int) := by decide
theorem u8of : ∀ i : Fin 9, ((UInt8.ofNat (97 + i.val)).toNat : Int) = 97 + (i.val : Int) := by decide
theorem conv_ax (W : World) (i : Nat) (hi : i < 9) : Sem.run Tryz.prog (convert 39 9 (.slice (some ⟨W.heap.size, 0, none⟩) 1 1)) (W.alloc (.cells #[.int .u8 (97 + (i : Int))] 5)) = .ok (.string (axN i)) (W.alloc (.cells #[.int .u8 (97 + (i : Int))] 5)) := by
  have h := conv_new W [UInt8.ofNat (97 + i)]
  have e := u8of ⟨i, hi⟩
  dsimp only at e
  rw [List.map_cons, List.map_nil, e] at h
  exact h
theorem cnt_wf {L : List Nat} (h : ∀ n ∈ L, n ≤ 255) (h8 : L.length ≤ 8) : (cntM L).wf := by
  refine ⟨by show (axsC 0 L).length ≤ _; rw [axsC_len]; omega, Nat.zero_le _, Nat.zero_le _, fun x hx => ?_, fun x hx => (by cases hx), fun x hx => (by cases hx)⟩
  obtain ⟨n, i, h1, _, _, rfl⟩ := axsC_mem (show x ∈ axsC 0 L from hx)
  have hn := h n h1
  refine ⟨by show 1 ≤ 9223372036854775807; decide, by show ((List.range n).map intV).length ≤ _; rw [List.length_map, List.length_range]; omega, fun t ht => ?_⟩
  obtain ⟨k, hk, rfl⟩ := List.mem_map.1 (show t ∈ (List.range n).map intV from ht)
  have := List.mem_range.1 hk
  exact flat_wf (by unfold isI; decide) (by unfold isI; omega) (by decide)
set_option maxRecDepth 100000 in
set_option maxHeartbeats 6400000 in
theorem counts_law (L : List Nat) (v : Value) (B : Nat → Prop) (w : World) (hp : Pow w) (h : EU8.Row B w L v) (hl : L.length ≤ 9223372036854775807) (h255 : ∀ n ∈ L, n ≤ 255) : Calls Tryz.prog 6 #[v] w (LawPost w) := by
  have AW0 : Hid (∀ W', Below w.heap.size w W' → Calls Tryz.prog 9 #[] W' (LawPost W')) := fun W' hb => awake_any W' (hp.below hb)
  obtain ⟨ao, cap, rfl⟩ := h.form
  by_cases hbig : L.length ≤ 8
  · have t1 : decide ((8 : Int) < (L.length : Int)) = false := decide_eq_false (by omega)
    have t1b : ¬ (8 : Int) < (L.length : Int) := by omega
    have HL := Lib.hid h
    have H255 := Lib.hid h255
    have CL := Lib.hid (cnt_law hbig h255)
    obtain ⟨w1, hw1⟩ : ∃ w1, w.alloc (.cells #[.slice none 0 0, .slice none 0 0, .slice none 0 0] 25 (0, 0)) = w1 := ⟨_, rfl⟩
    have HC0 : Hid (CoM w.heap.size w (L.take 0) w1) := ⟨.slice none 0 0, by rw [← hw1]; exact hp_new rfl, .nil, by rw [← hw1]; exact (Below.refl _ w).alloc (Nat.le_refl _) _⟩
    have HW1 := Lib.hid hw1
    obtain ⟨iA, hiA, hzA, hnA, hyA⟩ := Tryz.infoAxis'
    obtain ⟨iV, hiV, hzV, hnV, hyV⟩ := Tryz.vinfoV'
    have HIA := Lib.hid hiA
    have HIV := Lib.hid hiV
    clear h h255 hp hw1 hiA hiV hl
    go_enter Tryz.func6, Tryz.ntmps6
    go_upto_region 4 with fail
    rw [HW1.out]
    clear HW1
    as_aux_lemma =>
    go_wp2_with fail
    go_loopg [4, 5, 6] L.length (CoRel L w)
    case atStart => exact ⟨0, rfl, Nat.zero_le _, rfl, rfl, congrArg Value.bool (by unfold noneTo; rw [Bool.eq_iff_iff]; simp), HC0.out⟩
    case round =>
      obtain ⟨wz, hwz⟩ : ∃ wz : World, wz = wr := ⟨_, rfl⟩
      subst hwz
      obtain ⟨i, rfl, hi, rfl, rfl, rfl, hcm⟩ := hrel
      have HP1 := Lib.hid (satP_le (L.take i))
      have hlen8 : i ≤ 8 := by omega
      by_cases hlt : i < L.length
      · have hii : (i : Int) < (L.length : Int) := by omega
        obtain ⟨av, hmk, hax, hbel⟩ := hcm
        have HN5 := Lib.hid (noneTo_step hlt)
        have HS4 := Lib.hid (satP_step hlt)
        have HXS : Hid (axsC 0 (L.take (i + 1)) = axsC 0 (L.take i) ++ [axC L[i] i]) := by unfold Hid; rw [List.take_succ_eq_append_getElem hlt, axsC_snoc, List.length_take, Nat.min_eq_left hi, Nat.zero_add]
        have hn255 : L[i] ≤ 255 := H255.out _ (List.getElem_mem hlt)
        have HLA : Hid ((axsC 0 (L.take i)).length ≤ 8) := by unfold Hid; rw [axsC_len, List.length_take]; omega
        obtain ⟨bl, off, hao, hbl, hy0⟩ := u8_at HL.out hlt
        subst hao
        have HY : Hid (∀ W', Below w.heap.size w W' → W'.cell? ⟨bl, off + i, none⟩ = some (.int .u8 (L[i] : Nat))) := fun W' hb => (hb.cell (p := ⟨bl, off + i, none⟩) hbl).trans hy0
        clear hy0
        generalize L[i] = n at *
        generalize satP (L.take i) = pr at *
        generalize noneTo L i = nb at *
        generalize axsC 0 (L.take i) = AX0 at *
        have q97 : IntKind.i64.wrap (97 + (i : Int)) = 97 + (i : Int) := IntWalk.i64_in _ (by omega)
        have q8 : IntKind.u8.wrap (97 + (i : Int)) = 97 + (i : Int) := u8wrap ⟨i, by omega⟩
        have hcv := conv_ax wz i (by omega)
        obtain ⟨wq, hwq⟩ : ∃ wq, wz.alloc (.cells #[.int .u8 (97 + (i : Int))] 5) = wq := ⟨_, rfl⟩
        have hzq : wq.heap.size = wz.heap.size + 1 := by rw [← hwq]; simp
        have hbq : Below wz.heap.size wz wq := by rw [← hwq]; exact (Below.refl _ _).alloc (Nat.le_refl _) _
        obtain ⟨wb, hwb⟩ : ∃ wb, wq.alloc (.cells #[.string (axN i), .slice none 0 0] 50) = wb := ⟨_, rfl⟩
        have hkb : wb.heap[wq.heap.size]? = some (.cells #[.string (axN i), .slice none 0 0] 50 (0, 0)) := by rw [← hwb]; exact hp_new rfl
        have hbb : Below wq.heap.size wq wb := by rw [← hwb]; exact (Below.refl _ _).alloc (Nat.le_refl _) _
        have HQ := Lib.hid hwq
        have HQB := Lib.hid hwb
        have HV0 : Hid (∃ vv, wb.heap[wq.heap.size]? = some (.cells #[.string (axN i), vv] 50 (0, 0)) ∧ EVal.Own 46 (wq.heap.size + 1) (fun b => wq.heap.size < b) wb ((List.range 0).map intV) vv ∧ Below wq.heap.size wq wb) := ⟨_, hkb, .nil, hbb⟩
        have HMK := Lib.hid hmk
        have HAX := Lib.hid hax
        have HBW := Lib.hid hbel
        have HBQ := Lib.hid hbq
        have HZQ := Lib.hid hzq
        have HZW : Hid (w.heap.size < wz.heap.size) := (Array.getElem?_eq_some_iff.1 hmk).1
        clear hmk hax hbel hbq hkb hbb hwq hwb hzq
        obtain ⟨ab, hab⟩ : ∃ ab, wz.heap.size + 1 = ab := ⟨_, rfl⟩
        rw [HZQ.out, hab] at HV0
        have HAB := Lib.hid hab
        have HLT : Hid (w.heap.size < ab) := by have := HZW.out; unfold Hid; omega
        have HWQ : Hid (Below wz.heap.size wz wq) := HBQ.out
        as_aux_lemma =>
        go_upto_region 9 with fail
        rw [HQ.out, HQB.out]
        (try rw [HAB.out])
        clear HQ HQB hcv q97 q8 HZQ HBQ hab
        as_aux_lemma =>
        go_wp2_with fail
        go_loopg [8] n (CnRel n ab (axN i) wq)
        case atStart => exact ⟨0, rfl, Nat.zero_le _, rfl, HV0.out⟩
        case round =>
          obtain ⟨wv, hwv⟩ : ∃ wv : World, wv = wr := ⟨_, rfl⟩
          subst hwv
          obtain ⟨k, rfl, hk, rfl, vv, hkk, hown, hbel⟩ := hrel
          have HBV : Hid (Below w.heap.size w wv) := HBW.out.trans ((HWQ.out.mono (Nat.le_of_lt HZW.out)).trans (hbel.mono (Nat.le_of_lt HLT.out)))
          have hy := HY.out wv HBV.out
          have qn : IntKind.i64.wrap (n : Int) = (n : Int) := IntWalk.i64_in _ (by omega)
          obtain ⟨vo, vc, rfl⟩ := hown.form
          have ll : ((List.range k).map intV).length = k := by simp
          rw [ll] at hkk hown
          have HKK := Lib.hid hkk
          have HOW := Lib.hid hown
          have HBE := Lib.hid hbel
          have a0 := cell_of_blk hkk 0
          have a1 := cell_of_blk hkk 1
          clear HV0 ll
          by_cases hkn : k < n
          · have hkn2 : (k : Int) < (n : Int) := by omega
            have hb8 : Below wv.heap.size wv (wv.alloc (.cells #[.int .i64 2, .bool false, .int .i64 (k : Int), .string ⟨#[]⟩, .slice none 0 0, .slice none 0 0] 46 (0, 0))) := (Below.refl _ _).alloc (Nat.le_refl _) _
            have HB8 := Lib.hid hb8
            have HO8 := Lib.hid (hown.below hb8)
            have HX8 : Hid (EVal.R (fun q => ab < q ∧ (Value.slice vo k vc).ownBlock ≠ some q) (wv.alloc (.cells #[.int .i64 2, .bool false, .int .i64 (k : Int), .string ⟨#[]⟩, .slice none 0 0, .slice none 0 0] 46 (0, 0))) (intV k) [.int .i64 2, .bool false, .int .i64 (k : Int), .string ⟨#[]⟩, .slice none 0 0, .slice none 0 0]) := vcellB_flat 2 false (k : Int) ⟨#[]⟩
            have hs8 : ab + 1 ≤ (wv.alloc (.cells #[.int .i64 2, .bool false, .int .i64 (k : Int), .string ⟨#[]⟩, .slice none 0 0, .slice none 0 0] 46 (0, 0))).heap.size := Nat.le_trans (Array.getElem?_eq_some_iff.1 hkk).1 hb8.size
            clear hkk hown hbel hb8
            as_aux_lemma =>
            go_wp2_with (first
              | (refine wpList_build1 rfl 43 46 (.tmp 43) rfl #[.int .i64 2, .bool false, .int .i64 (k : Int), .string ⟨#[]⟩, .slice none 0 0, .slice none 0 0] iV _ Tryz.underlying43 HIV.out hzV 6 hnV (by decide) (by decide) rfl rfl ?_)
              | (refine wpList_own_push (E := EVal) rfl (.tmp 41) (.tmp 44) 43 rfl (ab + 1) 46 iV _ 88 Tryz.underlying43 HIV.out hzV hnV hyV rfl _ _ rfl HO8.out (intV k) [.int .i64 2, .bool false, .int .i64 (k : Int), .string ⟨#[]⟩, .slice none 0 0, .slice none 0 0] HX8.out _ (0, 0) (hp_new rfl) rfl (by rw [List.length_map, List.length_range]; unfold maxLen; omega) (by rw [List.length_map, List.length_range]; omega) hs8 ?_))
            intro v8 w8 hown8 hgrow hpu
            obtain ⟨g8, p8, hv8⟩ := hpu.form
            subst hv8
            have OB := own_box HKK.out HOW.out HB8.out hown8 hgrow 1
            have c8 := cell_of_blk OB.1 1
            have f8 := free_of_blk OB.1 1
            have HOB := Lib.hid OB.2
            clear hown8 hgrow hpu HO8 HX8 HB8 OB a0 a1
            go_wp2_with fail
            go_roundg (n - (k + 1))
            case measure => omega
            case rel => exact ⟨k + 1, by go_num, by omega, rfl, _, HOB.out.1, by rw [List.range_succ, List.map_append]; exact HOB.out.2.1, HBE.out.trans HOB.out.2.2⟩
          · have hkn2 : ¬ (k : Int) < (n : Int) := by omega
            have he : k = n := by omega
            subst he
            have HRV : Hid (EVal.Row (fun b => ab < b) wv ((List.range k).map intV) (.slice vo k vc)) := hown.row (fun b h => h) (fun b h => by omega)
            have hwzv : Below wz.heap.size wz wv := HWQ.out.trans (hbel.mono (by have := HAB.out; omega))
            have hmk2 := (hwzv.block _ HZW.out).trans HMK.out
            have hax2 := HAX.out.below hwzv
            obtain ⟨xo, xc, rfl⟩ := hax2.form
            have b0 := cell_of_blk hmk2 0
            have hb8 : Below wv.heap.size wv (wv.alloc (.cells #[.string (axN i), .slice vo k vc] 50 (0, 0))) := (Below.refl _ _).alloc (Nat.le_refl _) _
            have HX8 : Hid (EAx.R (fun q => w.heap.size < q ∧ (Value.slice xo AX0.length xc).ownBlock ≠ some q) (wv.alloc (.cells #[.string (axN i), .slice vo k vc] 50 (0, 0))) (axC k i) [.string (axN i), .slice vo k vc]) := eax_mk (x := axC k i) ((HRV.out.below hb8).mono fun q hq => ⟨Nat.lt_trans HLT.out hq, fun e => by
              have h1 := (HAX.out.low q e).2
              have := HAB.out
              omega⟩)
            have HO8 := Lib.hid (hax2.below hb8)
            have hs8 : w.heap.size + 1 ≤ (wv.alloc (.cells #[.string (axN i), .slice vo k vc] 50 (0, 0))).heap.size := Nat.le_trans (Array.getElem?_eq_some_iff.1 hmk2).1 hb8.size
            have HB8 := Lib.hid hb8
            have HMK2 := Lib.hid hmk2
            have HAX2 := Lib.hid hax2
            have HZV := Lib.hid (HBW.out.trans (hwzv.mono (Nat.le_of_lt HZW.out)))
            clear hmk2 hax2 hb8 hkk hown hbel hwzv HKK HOW HBE HMK HAX HWQ HRV hkn
            as_aux_lemma =>
            go_upto_region 14 with (first
              | (refine wpList_build1 rfl 22 50 (.tmp 49) rfl #[.string (axN i), .slice vo k vc] iA _ Tryz.underlying22 HIA.out hzA 2 hnA (by decide) (by decide) rfl rfl ?_)
              | (refine wpList_own_push (E := EAx) rfl (.tmp 48) (.tmp 50) 22 rfl (w.heap.size + 1) 50 iA _ 40 Tryz.underlying22 HIA.out hzA hnA hyA rfl _ _ rfl HO8.out (axC k i) [.string (axN i), .slice vo k vc] HX8.out _ (0, 0) (hp_new rfl) rfl (by have := HLA.out; unfold maxLen; omega) (by have := HLA.out; omega) hs8 ?_))
            intro v8 w8 hown8 hgrow hpu
            obtain ⟨g8, p8, hv8⟩ := hpu.form
            subst hv8
            have OB := own_box HMK2.out HAX2.out HB8.out hown8 hgrow 0
            have c8 := cell_of_blk OB.1 0
            have f8 := free_of_blk OB.1 0
            have HC9 : Hid (CoM w.heap.size w (L.take (i + 1)) (w8.setCell ⟨w.heap.size, 0, none⟩ (.slice (some ⟨g8, 0, none⟩) (AX0.length + 1) p8))) := ⟨_, OB.2.1, by rw [HXS.out]; exact OB.2.2.1, HZV.out.trans OB.2.2.2⟩
            clear hown8 hgrow hpu HO8 HX8 HB8 OB a0 a1 b0 HMK2 HAX2
            go_upto_region 14 with fail
            generalize w8.setCell ⟨w.heap.size, 0, none⟩ (.slice (some ⟨g8, 0, none⟩) (AX0.length + 1) p8) = w9 at *
            have HY9 : Hid (w9.cell? ⟨bl, off + i, none⟩ = some (.int .u8 (k : Nat))) := by
              obtain ⟨_, _, _, hb9⟩ := HC9.out
              exact HY.out w9 hb9
            have hy9 := HY9.out
            have qm : IntKind.i64.wrap ((pr : Int) * (k : Int)) = (pr : Int) * (k : Int) := IntWalk.i64_in _ (by
              have h1 := Nat.mul_le_mul HP1.out hn255
              have h2 : (pr : Int) * (k : Int) = ((pr * k : Nat) : Int) := by rw [Int.natCast_mul]
              omega)
            clear c8 f8 HY
            as_aux_lemma =>
            cases nb with
            | false =>
              go_wp2_with fail
              go_roundg (L.length - (i + 1))
              case measure => omega
              case rel => exact ⟨i + 1, by go_num, by omega, rfl, iv (by rw [HS4.out]; first | (simp; done) | (simp; omega) | omega), congrArg Value.bool (by rw [HN5.out, Bool.false_or, Bool.eq_iff_iff]; simp), HC9.out⟩
            | true =>
              go_wp2_with fail
              go_roundg (L.length - (i + 1))
              case measure => omega
              case rel => exact ⟨i + 1, by go_num, by omega, rfl, iv (by rw [HS4.out]; first | (simp; done) | (simp; omega) | omega), congrArg Value.bool (by rw [HN5.out]; rfl), HC9.out⟩
      · have hii : ¬ (i : Int) < (L.length : Int) := by omega
        have he : i = L.length := by omega
        have e1 : noneTo L i = noneP L := by rw [he]; exact noneTo_all L
        have e2 : L.take i = L := by rw [he, List.take_length]
        rw [e1, e2]
        rw [e2] at hcm HP1
        have hcp : cntP L = if noneP L = true then 0 else satP L := rfl
        obtain ⟨av, hmk, hax, hbel⟩ := hcm
        obtain ⟨xo, xc, rfl⟩ := hax.form
        have HBE := Lib.hid hbel
        have EX : Hid (Calls Tryz.prog 10 #[.agg #[.slice xo (axsC 0 L).length xc, .slice none 0 0, .slice none 0 0]] wz fun e w' => ∃ ro rc, e = .returned (.tuple #[.slice ro (expL (cntM L)).length rc, .int .i64 ((expE (cntM L) : Nat) : Int)]) ∧ Below wz.heap.size wz w') := (mexpand_any (cntM L) (cnt_wf H255.out hbig) _ wz ⟨xo, xc, none, 0, none, 0, rfl, (hax.row (B' := fun _ => True) (fun _ _ => trivial) (fun _ _ => trivial)).lt.mono fun b hb => hb.2, .nil, .nil⟩ (fun x hx => (by cases hx))).mono fun e w' h => by
          obtain ⟨ro, rc, h1, _, h2⟩ := exp_open h
          exact ⟨ro, rc, h1, h2⟩
        have c0 := cell_of_blk hmk 0
        have c1 := cell_of_blk hmk 1
        have c2 := cell_of_blk hmk 2
        have HPC : Hid (cntP L ≤ 1000000) := by unfold Hid; rw [hcp]; split <;> first | omega | exact HP1.out
        have CL1 : (256 < cntP L → expE (cntM L) = 15 ∧ (expL (cntM L)).length = 0) ∧ (cntP L ≤ 256 → expE (cntM L) = 0 ∧ (expL (cntM L)).length = cntP L) := ⟨fun h => ⟨(CL.out.1 h).1, by rw [(CL.out.1 h).2]; rfl⟩, CL.out.2⟩
        generalize expE (cntM L) = em at *
        generalize (expL (cntM L)).length = ln at *
        generalize (axsC 0 L).length = la at *
        generalize cntP L = pc at *
        generalize satP L = sp at *
        have FIN : Hid (∀ W', Below wz.heap.size wz W' → Calls Tryz.prog 9 #[] W' fun e w' => e = .returned (.bool true) ∧ Below w.heap.size w w') := fun W' hb => (AW0.out W' (HBE.out.trans (hb.mono HBE.out.size))).mono (by
          rintro e w' ⟨rfl, hb2⟩
          have h1 := HBE.out.trans (hb.mono HBE.out.size)
          exact ⟨rfl, h1.trans (hb2.mono h1.size)⟩)
        clear hmk hax hbel e1 e2 he hlt hi CL HC0 HL H255 hlen8 t1 t1b hbig AW0 HBE
        cases hnp : noneP L with
        | true =>
          rw [hnp] at hcp
          have hz : pc = 0 := hcp
          obtain ⟨k1, k2⟩ := CL1.2 (by omega)
          rw [hz] at k2
          subst k1 k2
          clear CL1 hcp HPC HP1 hnp hz
          as_aux_lemma =>
          go_wp2_with fail
          refine EX.out.mono ?_
          rintro e w2 ⟨ro, rc, rfl, hb⟩
          have H2 := Lib.hid hb
          clear hb c0 c1 c2 EX
          as_aux_lemma =>
          go_wp2_with fail
          refine (FIN.out w2 H2.out).mono ?_
          rintro e w3 ⟨rfl, hb⟩
          have H3 := Lib.hid hb
          clear hb
          go_wp2_with fail
          go_ret
          exact ⟨rfl, H3.out⟩
        | false =>
          rw [hnp] at hcp
          have hz : pc = sp := hcp
          subst hz
          clear hcp hnp HP1
          by_cases hbg : 256 < pc
          · obtain ⟨k1, k2⟩ := CL1.1 hbg
            subst k1 k2
            have tb : (256 : Int) < (pc : Int) := by omega
            clear CL1 HPC hbg
            as_aux_lemma =>
            go_wp2_with fail
            refine EX.out.mono ?_
            rintro e w2 ⟨ro, rc, rfl, hb⟩
            have H2 := Lib.hid hb
            clear hb c0 c1 c2 EX
            as_aux_lemma =>
            go_wp2_with fail
            refine (FIN.out w2 H2.out).mono ?_
            rintro e w3 ⟨rfl, hb⟩
            have H3 := Lib.hid hb
            clear hb
            go_wp2_with fail
            go_ret
            exact ⟨rfl, H3.out⟩
          · obtain ⟨k1, k2⟩ := CL1.2 (by omega)
            subst k1 k2
            have tb : ¬ (256 : Int) < (ln : Int) := by omega
            have te : ((ln : Int) == (ln : Int)) = true := by simp
            clear CL1 HPC hbg
            as_aux_lemma =>
            go_wp2_with fail
            refine EX.out.mono ?_
            rintro e w2 ⟨ro, rc, rfl, hb⟩
            have H2 := Lib.hid hb
            clear hb c0 c1 c2 EX
            as_aux_lemma =>
            go_wp2_with fail
            refine (FIN.out w2 H2.out).mono ?_
            rintro e w3 ⟨rfl, hb⟩
            have H3 := Lib.hid hb
            clear hb
            go_wp2_with fail
            go_ret
            exact ⟨rfl, H3.out⟩
  · have t1 : (8 : Int) < (L.length : Int) := by omega
    have HR := Lib.hid (Below.refl w.heap.size w)
    clear h h255 hp hbig hl
    go_enter Tryz.func6, Tryz.ntmps6
    go_wp2_with fail
    refine (AW0.out w HR.out).mono ?_
    rintro e w1 ⟨rfl, hb⟩
    have H1 := Lib.hid hb
    clear hb AW0
    go_wp2_with fail
    go_ret
    exact ⟨rfl, H1.out⟩
end Go.Proofs.YtomecnncighkgaaGreatDoor
