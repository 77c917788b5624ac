/- Plain laws of an execution: a log that is cut; the chapter's example. -/
import Derived.Test.YtghahghbahcpfaaGreatDoorVp1
import Derived.Test.YtghahghbahcpfaaGreatDoorVl1
import Derived.Laws.BytesArg
namespace Go.Proofs.YtghahghbahcpfaaGreatDoor

def logS (t : ByteArray) : StepM := ⟨6, ByteArray.empty, t, 0⟩
def view0 : ViewM := ⟨[], [], [], [], [], [], [], [], 0⟩
theorem step_log (D : ByteArray → Bool) (j : JobM) (t : ByteArray) (x : StM) (h0 : x.time = 0) (h1 : 0 ≤ j.timeout) : stepF D j view0 x (logS t) = ({ x with log := x.log ++ (bs t ++ [10]) }, 0) := by
  have hr : refusedF D j view0 (logS t) = 0 := by unfold refusedF; rfl
  have ht : takesF view0 x.saves (logS t) = 0 := by unfold takesF; rfl
  have ha : addI 0 0 = 0 := by decide
  obtain ⟨acc, time, log, reads, outs, tests, saves, child⟩ := x
  dsimp only at h0 ht ⊢
  subst h0
  unfold stepF
  rw [if_neg (fun h => h hr)]
  dsimp only
  rw [ht, ha, if_neg (by omega), performF_6 rfl, takeF_rest (show (6 : Int) ≠ 1 by decide) (show (6 : Int) ≠ 2 by decide) (show (6 : Int) ≠ 3 by decide) (show (6 : Int) ≠ 4 by decide)]
  rfl
theorem run_log (D : ByteArray → Bool) (j : JobM) (t : ByteArray) (h1 : 0 ≤ j.timeout) : ∀ (n : Nat) (x : StM), x.time = 0 → runF D j view0 x (List.replicate n (logS t)) = ({ x with log := x.log ++ (List.replicate n (bs t ++ [10])).flatten }, 0)
  | 0, x, _ => by
    rw [List.replicate_zero, runF, List.replicate_zero, List.flatten_nil, List.append_nil]
  | n + 1, x, h0 => by
    rw [List.replicate_succ, runF, step_log D j t x h0 h1, if_neg (fun h => h rfl)]
    dsimp only
    rw [run_log D j t h1 n { x with log := x.log ++ (bs t ++ [10]) } h0, List.replicate_succ, List.flatten_cons, List.append_assoc]
theorem flatl_len {α : Type} (l : List α) : ∀ n, (List.replicate n l).flatten.length = n * l.length
  | 0 => by simp
  | n + 1 => by rw [List.replicate_succ, List.flatten_cons, List.length_append, flatl_len l n, Nat.succ_mul]; omega
/-- SandboxLogs, in plain words -/
theorem logs_plain (D : ByteArray → Bool) (j : JobM) (t : ByteArray) (n : Nat) (h1 : 0 ≤ j.timeout) (hs : j.steps = List.replicate n (logS t)) (ht : t.size = 65535) :
    (execF D j view0).log.length = min (65536 * n) 1048576 ∧ (execF D j view0).status = 1 ∧ (0 < n → (execF D j view0).log[65535]? = some 10) := by
  unfold execF effectF
  rw [hs, run_log D j t h1 n _ rfl]
  have hl : (bs t ++ [10]).length = 65536 := by
    rw [List.length_append]
    show t.data.toList.length + 1 = 65536
    rw [Array.length_toList]
    show t.size + 1 = 65536
    omega
  dsimp only
  refine ⟨?_, rfl, fun hn => ?_⟩
  · rw [List.length_take]
    show min 1048576 ([] ++ (List.replicate n (bs t ++ [10])).flatten).length = _
    rw [List.nil_append, flatl_len, hl]
    omega
  · rw [List.getElem?_take_of_lt (by omega)]
    show ([] ++ (List.replicate n (bs t ++ [10])).flatten)[65535]? = some 10
    obtain ⟨m, rfl⟩ : ∃ m, n = m + 1 := ⟨n - 1, by omega⟩
    rw [List.nil_append, List.replicate_succ, List.flatten_cons, List.getElem?_append_left (by rw [hl]; decide), List.getElem?_append_right (by rw [List.length_append] at hl; simp only [List.length_cons, List.length_nil] at hl; omega)]
    have : 65535 - (bs t).length = 0 := by rw [List.length_append] at hl; simp only [List.length_cons, List.length_nil] at hl; omega
    rw [this]
    rfl
end Go.Proofs.YtghahghbahcpfaaGreatDoor
/- The walk over SandboxLogs. -/
namespace Go.Proofs.YtghahghbahcpfaaGreatDoor
open Go.RowKit Go.Deep

theorem conv_run (W : World) (b : Nat) (bl : List UInt8) (n cap : Nat) (hn : bl.length = n) (hc : ∀ i (h : i < bl.length), W.cell? ⟨b, i, none⟩ = some (.int .u8 (bl[i].toNat : Int))) :
    (convert 78 9 (.slice (some ⟨b, 0, none⟩) n cap)).run Tryz.prog W = .ok (.string ⟨bl.toArray⟩) W := by
  have hrun := run_convert_bytes_arg (P := Tryz.prog) W 78 5 Tryz.underlying78 Tryz.underlying5 b 0 n cap (bl.map fun b => (b.toNat : Int)) (by simpa using hn) (by
    intro i hi
    have hi' : i < bl.length := by simpa [hn] using hi
    rw [Nat.zero_add, hc i hi']
    simp [List.getD, hi']) 9 Tryz.underlying9
  rw [hrun]
  have : (strOfNums (bl.map fun b => (b.toNat : Int))).data.toList = bl := by
    rw [strOfNums_data, List.map_map]
    conv => rhs; rw [← List.map_id bl]
    apply List.map_congr_left
    intro b _
    simp
  rw [ba_of this]
theorem madeBytes (n : Nat) : (madeCells (Value.int .u8 0).cells (n * 1)).toList = (List.replicate n (0 : UInt8)).map fun b => Value.int .u8 (b.toNat : Int) := by
  simp [madeCells, Value.cells, Nat.mod_one, List.map_const']
abbrev txt0 : ByteArray := ⟨(List.replicate 65535 (0 : UInt8)).toArray⟩
theorem txt0_size : txt0.size = 65535 := by
  show (List.replicate 65535 (0 : UInt8)).toArray.size = 65535
  rw [List.size_toArray, List.length_replicate]
theorem Tryz.built_stG (b : ByteArray) : Tryz.prog.built tStep [(0, .int .i64 6), (2, .string b)] = some #[.int .i64 6, .string bE, .string b, .int .i64 0] := by kernel_rfl
theorem Tryz.built_view0 : Tryz.prog.built tView [] = some view0C := by kernel_rfl
theorem wpList_build0I {P : Program} {ops : Array Oper} {rest : List Oper} {o : Oper} {a : Act} {w : World} {Q : Exit → Act → World → Prop} (hg : o.guard = none) (t : TypeId) (ho : o.op = .build t #[]) (cells : Array Value) (hf : P.built t [] = some cells)
    (h : wpList P ops Q rest (a.put o.dst (.agg cells)) w) : wpList P ops Q (o :: rest) a w :=
  wpList_buildTo hg t #[] ho o.dst rfl cells (by simpa using hf) h
/-- the cells of the log's job: s its steps -/
def lgC (s : Value) : Nat → Value
  | 13 => s | 19 => .int .i64 1
  | k => lvC (.slice none 0 0) (.slice none 0 0) (.slice none 0 0) (.slice none 0 0) k
theorem Tryz.built_jobG : Tryz.prog.built tJob [(10, .int .i64 1)] = some (jobC (lgC (.slice none 0 0))) := by kernel_rfl
abbrev lgJ (tx : ByteArray) (n : Nat) : JobM := ⟨List.replicate n (logS tx), 1, [], [], [], 0, [], false⟩
theorem lgJB (tx : ByteArray) (n : Nat) (hn : n ≤ 20) (ht : tx.size ≤ 100000) : JB (lgJ tx n) :=
  ⟨by show (List.replicate n (logS tx)).length ≤ 1000; rw [List.length_replicate]; omega, (show i64R 1 by unfold i64R; decide), Nat.zero_le _, fun x h => absurd h List.not_mem_nil, Nat.zero_le _, Nat.zero_le _, Nat.zero_le _, Nat.zero_le _, fun s h => by
    rw [List.eq_of_mem_replicate h]
    exact ⟨Nat.zero_le _, ht, (show i64R 6 by unfold i64R; decide), (show i64R 0 by unfold i64R; decide)⟩⟩
theorem v0VB : VB view0 where
  files := by decide
  arts := by decide
  secs := by decide
  caches := by decide
  keys := by decide
  tests := by decide
  times := by decide
  ign := by decide
  fileN := fun o h => absurd h List.not_mem_nil
  artN := fun o h => absurd h List.not_mem_nil
  secN := fun o h => absurd h List.not_mem_nil
  keyN := fun o h => absurd h List.not_mem_nil
structure LgAt (gJ base : Nat) (tx : ByteArray) (i : Nat) (w0 w : World) : Prop where
  bel : Below w0.heap.size w0 w
  own : ∃ u, w.heap[gJ]? = some (.cells (jobC (lgC u)) tJob (0, 0)) ∧ EStep.Own tStep base noB w (List.replicate i (logS tx)) u
def LgRel (gJ base n : Nat) (tx : ByteArray) (w0 : World) (f : Nat) (t5 : Value) (wr : World) : Prop :=
  ∃ i : Nat, t5 = .int .i64 (i : Nat) ∧ i ≤ n ∧ f = n - i ∧ base ≤ wr.heap.size ∧ LgAt gJ base tx i w0 wr
set_option maxRecDepth 100000 in
set_option maxHeartbeats 6400000 in
theorem logs_law (n : Nat) (hn255 : n ≤ 255) (m : Int) (w : World) (hm : w.cell? ⟨0, 0, none⟩ = some (.int .i64 m)) : Calls Tryz.prog 8 #[.int .u8 (n : Nat)] w (LawPost w) := by
  have LV := Lib.hid (fun (W : World) (hb : Below w.heap.size w W) => lives_any m W ((hb.cell (p := ⟨0, 0, none⟩) (World.block_lt_of_cell? w _ hm)).trans hm))
  unfold LawPost at LV
  obtain ⟨iB, hiB, hzB, hnB, hyB⟩ := infoU8
  obtain ⟨iP, hiP, hzP, hnP, hyP⟩ := Tryz.infoStep'
  have HIB := Lib.hid hiB
  have HIP := Lib.hid hiP
  have HM := Lib.hid hm
  clear hiB hiP hm
  go_enter Tryz.func8, Tryz.ntmps8
  by_cases h20 : 20 < n
  · have t0 : decide ((20 : Int) < (n : Int)) = true := decide_eq_true (by omega)
    have t1 : (20 : Int) < (n : Int) := by omega
    as_aux_lemma =>
    go_wp2_with fail
    refine (LV.out w (Below.refl _ _)).mono ?_
    rintro e w2 ⟨rfl, hb⟩
    have HB := Lib.hid hb
    clear hb LV
    go_wp2_with fail
    go_ret
    exact ⟨rfl, HB.out⟩
  · have t0 : decide ((20 : Int) < (n : Int)) = false := decide_eq_false (by omega)
    have t1 : ¬ (20 : Int) < (n : Int) := by omega
    go_upto_region 3 with fail
    refine wp_region_lit ?_
    refine wpList_make_full w rfl _ _ 78 rfl w.heap.size 5 iB _ 1 Tryz.underlying78 HIB.out hzB hnB .i64 .i64 65535 65535 65535 rfl rfl rfl rfl (by rw [hyB]; decide) (by decide) (Nat.le_refl _) ?_
    intro w1 hown hgrow
    rw [madeBytes] at hown
    have HB1 : Hid (Below w.heap.size w w1) := below_grown hgrow (Nat.le_refl _) (fun q e => by cases e)
    have HCV : Hid ((convert 78 9 (.slice (some ⟨w.heap.size, 0, none⟩) 65535 65535)).run Tryz.prog w1 = .ok (.string txt0) w1) := conv_run w1 w.heap.size (List.replicate 65535 0) 65535 65535 List.length_replicate (fun i hi => by
      rcases hown.2 with ⟨e, _⟩ | ⟨g, cp, cur, e, _, hk, _, _, hs, htk⟩
      · cases e
      · injection e with e1 _ _
        injection e1 with e1
        injection e1 with e1 _ _
        subst e1
        rw [List.length_replicate] at hi
        have h2 : ((List.replicate 65535 (0 : UInt8)).map fun b => Value.int .u8 (b.toNat : Int))[i]? = some (.int .u8 ((List.replicate 65535 (0 : UInt8))[i]'(by rw [List.length_replicate]; exact hi)).toNat) := by
          rw [List.getElem?_map, List.getElem?_eq_getElem]
          rfl
        rw [← htk, List.getElem?_take_of_lt (by omega)] at h2
        rw [cell_of_blk hk, ← Array.getElem?_toList]
        exact h2)
    obtain ⟨tx, htx⟩ : ∃ tx, txt0 = tx := ⟨_, rfl⟩
    have HTX : Hid (tx.size = 65535) := by unfold Hid; rw [← htx]; exact txt0_size
    rw [htx] at HCV
    have hcv := HCV.out
    clear hown hgrow htx HCV
    try simp only [Act.put, List.setIfInBounds_toArray, List.set_cons_zero, List.set_cons_succ]
    go_upto_region 4 with fail
    clear hcv
    refine wp_region_lit ?_
    refine wpList_build1I rfl tJob _ rfl (.int .i64 1) rfl _ Tryz.built_jobG ?_
    try simp only [Act.put, List.setIfInBounds_toArray, List.set_cons_zero, List.set_cons_succ]
    go_wp2_with (refine wpList_store_row rfl tJob _ _ rfl w1.heap.size rfl tJob _ (hp_new rfl) (.agg (jobC (lgC (.slice none 0 0)))) rfl (by kernel_rfl) rfl rfl ?_)
    intro w2 hw2
    have HK2 : Hid (w2.heap[w1.heap.size]? = some (.cells (jobC (lgC (.slice none 0 0))) tJob (0, 0))) := hw2.at_
    have HB12 : Hid (Below w1.heap.size w1 w2) := ((Below.refl _ w1).alloc (Nat.le_refl _) _).trans (hw2.below (Nat.le_refl _))
    have HB2 : Hid (Below w.heap.size w w2) := HB1.out.trans (HB12.out.mono HB1.out.size)
    have hwg : w.heap.size ≤ w1.heap.size := HB1.out.size
    obtain ⟨gJ, hgJ⟩ : ∃ g, w1.heap.size = g := ⟨_, rfl⟩
    rw [hgJ] at HK2 hwg
    rw [hgJ]
    have zg : gJ < w2.heap.size := (Array.getElem?_eq_some_iff.1 HK2.out).1
    have hwn : IntKind.i64.wrap (n : Int) = (n : Int) := IntWalk.i64_in _ (by omega)
    clear hw2 HB12 hgJ HB1
    go_wp2_with fail
    go_loopg [5] n (LgRel gJ w2.heap.size n tx w)
    case atStart => exact ⟨0, rfl, Nat.zero_le _, rfl, Nat.le_refl _, HB2.out, _, HK2.out, ElemK.Own.nil⟩
    case round =>
      obtain ⟨i, rfl, hi, rfl, hbs, hbel, u, hku, hown⟩ := hrel
      have HBE := Lib.hid hbel
      have HKU := Lib.hid hku
      by_cases hlt : i < n
      · have hii : (i : Int) < (n : Int) := by omega
        have hdd : decide ((i : Int) < (n : Int)) = true := decide_eq_true hii
        obtain ⟨uo, uc, hu⟩ := hown.form
        rw [List.length_replicate] at hu
        subst hu
        have HO := Lib.hid hown
        have c13 : wr.cell? ⟨gJ, 13, none⟩ = some (.slice uo i uc) := cell_of_blk hku 13
        obtain ⟨wa, hwa⟩ : ∃ wa, wr.alloc (.cells #[.int .i64 6, .string bE, .string tx, .int .i64 0] tStep) = wa := ⟨_, rfl⟩
        have hka : wa.heap[wr.heap.size]? = some (.cells #[.int .i64 6, .string bE, .string tx, .int .i64 0] tStep (0, 0)) := by rw [← hwa]; exact hp_new rfl
        have HBA : Hid (Below wr.heap.size wr wa) := by unfold Hid; rw [← hwa]; exact (Below.refl _ _).alloc (Nat.le_refl _) _
        have HWA := Lib.hid hwa
        have HOA := Lib.hid (HO.out.below HBA.out)
        have hza := HBA.out.size
        have HLR : Hid ((List.replicate i (logS tx)).length = i) := List.length_replicate
        have HRS : Hid (List.replicate i (logS tx) ++ [logS tx] = List.replicate (i + 1) (logS tx)) := by unfold Hid; rw [List.replicate_succ']
        have HLO : Hid (∀ q, (Value.slice uo i uc).ownBlock = some q → w2.heap.size ≤ q) := fun q e => (HO.out.low q e).1
        have hzw := HBE.out.size
        clear hwa hown hku hbel
        as_aux_lemma =>
        go_upto_region 8 with fail
        refine wp_region_lit ?_
        go_wp2_with (first
          | (refine wpList_build2I rfl tStep _ _ rfl (.int .i64 6) (.string tx) rfl rfl _ (Tryz.built_stG _) ?_)
          | (refine wpList_build1 rfl 30 tStep _ rfl #[.int .i64 6, .string bE, .string tx, .int .i64 0] iP _ Tryz.underlying30 HIP.out hzP 4 hnP (by decide) (by decide) rfl rfl ?_)
          | (at_builtin; rw [HWA.out]; refine wpList_own_push (E := EStep) rfl _ _ 30 rfl w2.heap.size tStep iP _ 48 Tryz.underlying30 HIP.out hzP hnP hyP rfl (List.replicate i (logS tx)) (.slice uo i uc) rfl HOA.out (logS tx) [.int .i64 6, .string bE, .string tx, .int .i64 0] rfl wr.heap.size (0, 0) hka rfl (by rw [HLR.out]; unfold maxLen; omega) (by rw [HLR.out]; omega) (by omega) ?_))
        intro v6 w6 hown hgrow hpu
        obtain ⟨g6, p6, hv6⟩ := hpu.form
        rw [HRS.out] at hown
        subst hv6
        have hk6 : w6.heap[gJ]? = some (.cells (jobC (lgC (.slice uo i uc))) tJob (0, 0)) := (hgrow.block gJ (by omega) (fun e => by have := HLO.out _ e.symm; omega)).trans ((HBA.out.block gJ (by omega)).trans HKU.out)
        have c136 : w6.cell? ⟨gJ, 13, none⟩ = some (.slice uo i uc) := cell_of_blk hk6 13
        have f136 := free_of_blk hk6 13
        have HWR := Lib.hid (wrote_setCell hk6 13 (.slice (some ⟨g6, 0, none⟩) (i + 1) p6))
        have HO6 := Lib.hid hown
        have HB6 : Hid (Below w.heap.size w w6) := (HBE.out.trans (HBA.out.mono hzw)).trans (below_grown hgrow (by omega) (fun q e => by have := HLO.out _ e; omega))
        have hz6 : wr.heap.size ≤ w6.heap.size := Nat.le_trans hza hgrow.size
        clear hown hgrow hpu hka HOA HWA hk6 HKU
        go_wp2_with fail
        go_roundg (n - (i + 1))
        case measure => omega
        case rel =>
          exact ⟨i + 1, by go_num, by omega, rfl, by rw [HWR.out.size]; omega, HB6.out.trans (HWR.out.below hwg), .slice (some ⟨g6, 0, none⟩) (i + 1) p6, HWR.out.at_, HO6.out.wrote HWR.out (fun e => by have := (HO6.out.low _ e).1; omega) (fun _ h => h.elim)⟩
      · have hii : ¬ (i : Int) < (n : Int) := by omega
        have hdd : decide ((i : Int) < (n : Int)) = false := decide_eq_false hii
        have he : i = n := by omega
        rw [he] at hown
        obtain ⟨uo, uc, hu⟩ := hown.form
        rw [List.length_replicate] at hu
        subst hu
        have hzr := hbel.size
        have HJA : Hid (JAt wr.heap.size (lgC (.slice uo n uc)) (lgJ tx n) wr) :=
          ⟨(hown.row (B' := fun _ => True) (fun _ _ => trivial) (fun _ _ => trivial)).lt.mono fun b h => h.2, rfl, .nil, .nil, .nil, ⟨none, 0, rfl⟩, .nil, rfl⟩
        have HVA : Hid (VAt wr.heap.size (lgC (.slice uo n uc)) view0 wr) := ⟨.nil, .nil, .nil, .nil, .nil, .nil, .nil, .nil, rfl⟩
        have hc0 : Hid (wr.cell? ⟨0, 0, none⟩ = some (.int .i64 m)) := (hbel.cell (p := ⟨0, 0, none⟩) (World.block_lt_of_cell? w _ HM.out)).trans HM.out
        have EX := Lib.hid (exec_any (lgC (.slice uo n uc)) (lgJ tx n) view0 (by show (List.replicate n (logS tx)).length ≤ 900; rw [List.length_replicate]; omega) (lgJB tx n (by omega) (by rw [HTX.out]; decide)) v0VB m wr hc0.out HVA.out HJA.out)
        unfold ExPost at EX
        have LP := Lib.hid (logs_plain (declF (lgJ tx n).inputs) (lgJ tx n) tx n (by show (0 : Int) ≤ 1; decide) rfl HTX.out)
        generalize execF (declF (lgJ tx n).inputs) (lgJ tx n) view0 = E at *
        have hvz : viewA (lgC (.slice uo n uc)) = .agg view0C := rfl
        have HVZ := Lib.hid hvz
        clear hvz he hku hown hzr HJA HVA hc0
        generalize lgC (.slice uo n uc) = c at *
        as_aux_lemma =>
        go_upto_region 9 with fail
        refine wp_region_lit ?_
        refine wpList_load_mid rfl tJob (.tmp 4) rfl gJ 0 rfl (jobL c) _ (range_job HKU.out) Tryz.underlying38 rfl (by kernel_rfl) ?_
        try simp only [Act.put, List.setIfInBounds_toArray, List.set_cons_zero, List.set_cons_succ]
        refine wpList_build0I rfl tView rfl view0C Tryz.built_view0 ?_
        try simp only [Act.put, List.setIfInBounds_toArray, List.set_cons_zero, List.set_cons_succ]
        rw [HVZ.out] at EX
        go_wp2_with fail
        refine EX.out.mono ?_
        rintro e w5 ⟨u5, rfl, heff, hb5⟩
        have HB5 : Hid (Below w.heap.size w w5) := hbel.trans (hb5.mono hbel.size)
        obtain ⟨iv, ov, tv, sv, lg, rfl, f1, f2, f3, f4, f5⟩ := heff
        obtain ⟨io, ic, rfl⟩ := f2.form
        obtain ⟨oo, oc, rfl⟩ := f3.form
        obtain ⟨tt, tc, rfl⟩ := f4.form
        obtain ⟨so, sc', rfl⟩ := f5.form
        obtain ⟨l1, l2, l3⟩ := LP.out
        obtain ⟨E1, E2, EI, EO, ET, EC, EL, EM, ES⟩ := E
        dsimp only at l1 l2 l3 f1 ⊢
        subst l2
        have HLS : Hid (lg.size = min (65536 * n) 1048576) := by unfold Hid; rw [← bs_len, f1]; exact l1
        have HL9 : Hid (0 < n → (bs lg)[65535]? = some 10) := fun h => by rw [f1]; exact l3 h
        clear l1 l3 f1 f2 f3 f4 f5 LP EX hb5 hbel
        go_wp2_with (refine wpList_store_row rfl tEff _ _ rfl w5.heap.size rfl tEff _ (hp_new rfl) (.agg #[.int .i64 1, .int .i64 E2, .slice io EI.length ic, .slice oo EO.length oc, .slice tt ET.length tc, .string EC, .string lg, .int .i64 EM, .slice so ES.length sc']) rfl (by kernel_rfl) rfl rfl ?_)
        intro w6 hw6
        have HE6 : Hid (w6.heap[w5.heap.size]? = some (.cells #[.int .i64 1, .int .i64 E2, .slice io EI.length ic, .slice oo EO.length oc, .slice tt ET.length tc, .string EC, .string lg, .int .i64 EM, .slice so ES.length sc'] tEff (0, 0))) := hw6.at_
        have HB56 : Hid (Below w5.heap.size w5 w6) := ((Below.refl _ w5).alloc (Nat.le_refl _) _).trans (hw6.below (Nat.le_refl _))
        have HB6 : Hid (Below w.heap.size w w6) := HB5.out.trans (HB56.out.mono HB5.out.size)
        have g0 : w6.cell? ⟨w5.heap.size, 0, none⟩ = some (.int .i64 1) := cell_of_blk HE6.out 0
        have g6 : w6.cell? ⟨w5.heap.size, 6, none⟩ = some (.string lg) := cell_of_blk HE6.out 6
        have hmul : IntKind.i64.wrap (65536 * (n : Int)) = 65536 * (n : Int) := IntWalk.i64_in _ (by omega)
        have hmin : min (65536 * (n : Int)) 1048576 = (lg.size : Int) := by have := HLS.out; omega
        have LVV := Lib.hid (LV.out w6 HB6.out)
        clear hw6 HB56 HB5 LV
        go_upto_region 10 with fail
        by_cases hn0 : n = 0
        · subst hn0
          go_wp2_with fail
          refine LVV.out.mono ?_
          rintro e w7 ⟨rfl, hb7⟩
          have HB7 := Lib.hid (HB6.out.trans (hb7.mono HB6.out.size))
          clear hb7 LVV
          go_wp2_with fail
          go_ret
          exact ⟨rfl, HB7.out⟩
        · have n0 : ((n : Int) == 0) = false := by simp [hn0]
          have hsz : 65535 < lg.size := by have := HLS.out; omega
          have hszi : (65535 : Int) < (lg.size : Int) := by omega
          have hby : lg[65535]'hsz = (10 : UInt8) := by
            have h1 := HL9.out (by omega)
            have h2 : 65535 < (bs lg).length := by rw [bs_len]; exact hsz
            rw [List.getElem?_eq_getElem h2] at h1
            injection h1 with h1
          have hbn : ((lg[65535]'hsz).toNat : Int) = 10 := by rw [hby]; rfl
          clear hn0 hby
          go_wp2_with fail
          refine LVV.out.mono ?_
          rintro e w7 ⟨rfl, hb7⟩
          have HB7 := Lib.hid (HB6.out.trans (hb7.mono HB6.out.size))
          clear hb7 LVV
          go_wp2_with fail
          go_ret
          exact ⟨rfl, HB7.out⟩
end Go.Proofs.YtghahghbahcpfaaGreatDoor
