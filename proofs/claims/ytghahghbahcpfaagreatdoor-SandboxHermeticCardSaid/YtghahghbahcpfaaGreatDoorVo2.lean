/- The walks over the reference's tests of sizes: short (53), short and Small (41). -/
import Derived.Test.YtghahghbahcpfaaGreatDoorVs5
import Derived.Test.YtghahghbahcpfaaGreatDoorVo1
namespace Go.Proofs.YtghahghbahcpfaaGreatDoor
open Go.RowKit

def shortF (L : List ByteArray) (m s : Int) : Bool := decide ((L.length : Int) ≤ m) && L.all fun x => decide ((x.size : Int) ≤ s)
theorem take_all_succ {α : Type} {p : α → Bool} {L : List α} {i : Nat} (h : i < L.length) (hk : (L.take i).all p = true) : (p L[i] = true → (L.take (i + 1)).all p = true) ∧ (p L[i] = false → L.all p = false) := by
  refine ⟨fun e => ?_, fun e => ?_⟩
  · rw [List.take_succ_eq_append_getElem h, List.all_append, hk, List.all_cons, e]; rfl
  · rw [Bool.eq_false_iff]
    intro h2
    have := List.all_eq_true.1 h2 _ (List.getElem_mem h)
    rw [e] at this
    cases this
def ShRel (s : Int) (L : List ByteArray) (w1 : World) (f : Nat) (t : Value) (wr : World) : Prop :=
  ∃ i : Nat, t = .int .i64 (i : Nat) ∧ i ≤ L.length ∧ f = L.length - i ∧ (L.take i).all (fun x => decide ((x.size : Int) ≤ s)) = true ∧ wr = w1
set_option maxRecDepth 100000 in
set_option maxHeartbeats 1600000 in
theorem short_any (m s : Int) (v : Value) (L : List ByteArray) (B : Nat → Prop) (hl : L.length ≤ 9223372036854775807) (hs : ∀ x ∈ L, x.size ≤ 9223372036854775807) (w : World) (h : EStr.Row B w L v) :
    Calls Tryz.prog 30 #[v, .int .i64 m, .int .i64 s] w fun e w' => e = .returned (.bool (shortF L m s)) ∧ w' = w := by
  obtain ⟨ko, kc, rfl⟩ := h.form
  have H := Lib.hid h
  have HS := Lib.hid hs
  clear h hs
  by_cases hm : (L.length : Int) ≤ m
  · have HM : Hid (decide ((L.length : Int) ≤ m) = true) := decide_eq_true hm
    have hm1 : ¬ m < (L.length : Int) := by omega
    clear hm
    go_enter Tryz.func30, Tryz.ntmps30
    go_wp2_with fail
    go_loopg [7] L.length (ShRel s L w)
    case atStart => exact ⟨0, rfl, Nat.zero_le _, rfl, rfl, rfl⟩
    case round =>
      obtain ⟨i, rfl, hi, rfl, hk, rfl⟩ := hrel
      have HK := Lib.hid hk
      clear hk hm1
      by_cases hlt : i < L.length
      · obtain ⟨b1, o1, rfl, _, hc1⟩ := strs_at H.out hlt
        have hii : (i : Int) < (L.length : Int) := by omega
        have HT := Lib.hid (take_all_succ hlt HK.out)
        have hz : L[i].size ≤ 9223372036854775807 := HS.out _ (List.getElem_mem hlt)
        generalize L[i] = x at *
        by_cases hx : (x.size : Int) ≤ s
        · have HN := Lib.hid (HT.out.1 (decide_eq_true hx))
          have t1 : ¬ s < (x.size : Int) := by omega
          clear HT HK hx
          as_aux_lemma =>
          go_wp2_with fail
          go_roundg (L.length - (i + 1))
          case measure => omega
          case rel => exact ⟨i + 1, by go_num, by omega, rfl, HN.out, rfl⟩
        · have HN := Lib.hid (HT.out.2 (decide_eq_false hx))
          have t1 : s < (x.size : Int) := by omega
          clear HT HK hx
          as_aux_lemma =>
          go_wp2_with fail
          go_ret
          exact ⟨by unfold shortF; rw [HN.out, Bool.and_false] <;> rfl, rfl⟩
      · have hii : ¬ (i : Int) < (L.length : Int) := by omega
        have he : i = L.length := by omega
        have HN : Hid (L.all (fun x => decide ((x.size : Int) ≤ s)) = true) := by unfold Hid; have := HK.out; rwa [he, List.take_length] at this
        clear HK he
        go_wp2_with fail
        go_ret
        exact ⟨by unfold shortF; rw [HN.out, HM.out]; rfl, rfl⟩
  · have HM : Hid (decide ((L.length : Int) ≤ m) = false) := decide_eq_false hm
    have hm1 : m < (L.length : Int) := by omega
    clear hm
    go_enter Tryz.func30, Tryz.ntmps30
    go_wp2_with fail
    go_ret
    exact ⟨by unfold shortF; rw [HM.out]; rfl, rfl⟩
set_option maxRecDepth 100000 in
set_option maxHeartbeats 1600000 in
theorem short41_any (v : Value) (L : List ByteArray) (B : Nat → Prop) (hl : L.length ≤ 9223372036854775807) (hs : ∀ x ∈ L, x.size ≤ 9223372036854775807) (w : World) (h : EStr.Row B w L v) :
    Calls Tryz.prog 58 #[v] w fun e w' => e = .returned (.bool (shortF L 6 100)) ∧ w' = w := by
  obtain ⟨ko, kc, rfl⟩ := h.form
  have H := Lib.hid h
  have HS := Lib.hid hs
  clear h hs
  go_enter Tryz.func58, Tryz.ntmps58
  go_wp2_with fail
  go_loopg [3] L.length (ShRel 100 L w)
  case atStart => exact ⟨0, rfl, Nat.zero_le _, rfl, rfl, rfl⟩
  case round =>
    obtain ⟨i, rfl, hi, rfl, hk, rfl⟩ := hrel
    have HK := Lib.hid hk
    clear hk
    by_cases hlt : i < L.length
    · obtain ⟨b1, o1, rfl, _, hc1⟩ := strs_at H.out hlt
      have hii : (i : Int) < (L.length : Int) := by omega
      have HT := Lib.hid (take_all_succ hlt HK.out)
      have hz : L[i].size ≤ 9223372036854775807 := HS.out _ (List.getElem_mem hlt)
      generalize L[i] = x at *
      by_cases hx : (x.size : Int) ≤ 100
      · have HN := Lib.hid (HT.out.1 (decide_eq_true hx))
        have t1 : ¬ (100 : Int) < (x.size : Int) := by omega
        clear HT HK hx
        as_aux_lemma =>
        go_wp2_with fail
        go_roundg (L.length - (i + 1))
        case measure => omega
        case rel => exact ⟨i + 1, by go_num, by omega, rfl, HN.out, rfl⟩
      · have HN := Lib.hid (HT.out.2 (decide_eq_false hx))
        have t1 : (100 : Int) < (x.size : Int) := by omega
        clear HT HK hx
        as_aux_lemma =>
        go_wp2_with fail
        go_ret
        exact ⟨by unfold shortF; rw [HN.out, Bool.and_false] <;> rfl, rfl⟩
    · have hii : ¬ (i : Int) < (L.length : Int) := by omega
      have he : i = L.length := by omega
      have HN : Hid (L.all (fun x => decide ((x.size : Int) ≤ 100)) = true) := by unfold Hid; have := HK.out; rwa [he, List.take_length] at this
      clear HK he
      by_cases h6 : (L.length : Int) ≤ 6
      · have H6 : Hid (decide ((L.length : Int) ≤ 6) = true) := decide_eq_true h6
        as_aux_lemma =>
        go_wp2_with fail
        go_ret
        exact ⟨by unfold shortF; rw [HN.out, H6.out] <;> rfl, rfl⟩
      · have H6 : Hid (decide ((L.length : Int) ≤ 6) = false) := decide_eq_false h6
        as_aux_lemma =>
        go_wp2_with fail
        go_ret
        exact ⟨by unfold shortF; rw [HN.out, H6.out] <;> rfl, rfl⟩
/-- has a secret short strings? -/
def smallS (x : SecM) : Bool := decide ((x.name.size : Int) ≤ 1000) && decide ((x.text.size : Int) ≤ 1000) && shortF x.refs 6 100 && shortF x.envs 6 100
def small41F (L : List SecM) : Bool := decide ((L.length : Int) ≤ 70) && L.all smallS
def SsRel (L : List SecM) (w1 : World) (f : Nat) (t : Value) (wr : World) : Prop :=
  ∃ i : Nat, t = .int .i64 (i : Nat) ∧ i ≤ L.length ∧ f = L.length - i ∧ (L.take i).all smallS = true ∧ wr = w1
theorem sec_at {B : Nat → Prop} {w : World} {L : List SecM} {ao : Option Addr} {n cap : Nat} (h : ESec.Row B w L (.slice ao n cap)) {k : Nat} (hk : k < L.length) :
    ∃ bl off rv ev, ao = some ⟨bl, off, none⟩ ∧ bl < w.heap.size ∧ w.cell? ⟨bl, off + k * 5, none⟩ = some (.string L[k].name) ∧ w.cell? ⟨bl, off + k * 5 + 1, none⟩ = some (.string L[k].text) ∧ w.cell? ⟨bl, off + k * 5 + 3, none⟩ = some rv ∧ w.cell? ⟨bl, off + k * 5 + 4, none⟩ = some ev ∧ EStr.Row B w L[k].refs rv ∧ EStr.Row B w L[k].envs ev := by
  obtain ⟨bl, off, cs, e, _, hb, hc, rv, ev, rfl, h1, h2⟩ := h.at hk
  exact ⟨bl, off, rv, ev, e, hb, hc 0 _ rfl, hc 1 _ rfl, hc 3 _ rfl, hc 4 _ rfl, h1, h2⟩
set_option maxRecDepth 100000 in
set_option maxHeartbeats 1600000 in
theorem small41_any (v : Value) (L : List SecM) (B : Nat → Prop) (hl : L.length ≤ 9223372036854775807) (hs : ∀ f ∈ L, f.name.size ≤ 9223372036854775807 ∧ f.text.size ≤ 9223372036854775807 ∧ f.refs.length ≤ 9223372036854775807 ∧ f.envs.length ≤ 9223372036854775807 ∧ (∀ q ∈ f.refs, q.size ≤ 9223372036854775807) ∧ (∀ q ∈ f.envs, q.size ≤ 9223372036854775807)) (w : World) (h : ESec.Row B w L v) :
    Calls Tryz.prog 31 #[v] w fun e w' => e = .returned (.bool (small41F L)) ∧ w' = w := by
  obtain ⟨ko, kc, rfl⟩ := h.form
  have H := Lib.hid h
  have HS := Lib.hid hs
  clear h hs
  by_cases hm : (L.length : Int) ≤ 70
  · have HM : Hid (decide ((L.length : Int) ≤ 70) = true) := decide_eq_true hm
    have hm1 : ¬ (70 : Int) < (L.length : Int) := by omega
    clear hm
    go_enter Tryz.func31, Tryz.ntmps31
    go_wp2_with fail
    go_loopg [3] L.length (SsRel L w)
    case atStart => exact ⟨0, rfl, Nat.zero_le _, rfl, rfl, rfl⟩
    case round =>
      obtain ⟨i, rfl, hi, rfl, hk, rfl⟩ := hrel
      have HK := Lib.hid hk
      clear hk hm1
      by_cases hlt : i < L.length
      · obtain ⟨b1, o1, rv, ev, rfl, _, c0, c1, c3, c4, hr, he⟩ := sec_at H.out hlt
        have hii : (i : Int) < (L.length : Int) := by omega
        have HT := Lib.hid (take_all_succ hlt HK.out)
        obtain ⟨z0, z1, z2, z3, z4, z5⟩ := HS.out _ (List.getElem_mem hlt)
        have RF := Lib.hid (short41_any rv L[i].refs B z2 z4 wr hr)
        have EF := Lib.hid (short41_any ev L[i].envs B z3 z5 wr he)
        obtain ⟨ro, rc, rfl⟩ := hr.form
        obtain ⟨eo, ec, rfl⟩ := he.form
        generalize L[i] = x at *
        have HU : Hid (smallS x = (decide ((x.name.size : Int) ≤ 1000) && decide ((x.text.size : Int) ≤ 1000) && shortF x.refs 6 100 && shortF x.envs 6 100)) := rfl
        clear hr he z4 z5
        by_cases hx : (x.name.size : Int) ≤ 1000
        · have t1 : ¬ (1000 : Int) < (x.name.size : Int) := by omega
          by_cases hy : (x.text.size : Int) ≤ 1000
          · have t2 : ¬ (1000 : Int) < (x.text.size : Int) := by omega
            rw [decide_eq_true hx, decide_eq_true hy] at HU
            obtain ⟨rb, hrb⟩ : ∃ b, shortF x.refs 6 100 = b := ⟨_, rfl⟩
            obtain ⟨eb, heb⟩ : ∃ b, shortF x.envs 6 100 = b := ⟨_, rfl⟩
            rw [hrb] at HU RF
            rw [heb] at HU EF
            clear hrb heb hx hy HK
            cases rb with
            | false =>
              have HN := Lib.hid (HT.out.2 HU.out)
              clear HT HU
              as_aux_lemma =>
              go_wp2_with fail
              refine RF.out.mono ?_
              rintro e w2 ⟨rfl, rfl⟩
              go_wp2_with fail
              go_ret
              exact ⟨by unfold small41F; rw [HN.out, Bool.and_false] <;> rfl, rfl⟩
            | true =>
              cases eb with
              | false =>
                have HN := Lib.hid (HT.out.2 HU.out)
                clear HT HU
                as_aux_lemma =>
                go_wp2_with fail
                refine RF.out.mono ?_
                rintro e w2 ⟨rfl, rfl⟩
                go_wp2_with fail
                refine EF.out.mono ?_
                rintro e w2 ⟨rfl, rfl⟩
                go_wp2_with fail
                go_ret
                exact ⟨by unfold small41F; rw [HN.out, Bool.and_false] <;> rfl, rfl⟩
              | true =>
                have HN := Lib.hid (HT.out.1 HU.out)
                clear HT HU
                as_aux_lemma =>
                go_wp2_with fail
                refine RF.out.mono ?_
                rintro e w2 ⟨rfl, rfl⟩
                go_wp2_with fail
                refine EF.out.mono ?_
                rintro e w2 ⟨rfl, rfl⟩
                go_wp2_with fail
                go_roundg (L.length - (i + 1))
                case measure => omega
                case rel => exact ⟨i + 1, by go_num, by omega, rfl, HN.out, rfl⟩
          · have t2 : (1000 : Int) < (x.text.size : Int) := by omega
            have HN := Lib.hid (HT.out.2 (HU.out.trans (by rw [decide_eq_false hy, Bool.and_false]; rfl)))
            clear HT HU HK hx hy RF EF
            as_aux_lemma =>
            go_wp2_with fail
            go_ret
            exact ⟨by unfold small41F; rw [HN.out, Bool.and_false] <;> rfl, rfl⟩
        · have t1 : (1000 : Int) < (x.name.size : Int) := by omega
          have HN := Lib.hid (HT.out.2 (HU.out.trans (by rw [decide_eq_false hx]; rfl)))
          clear HT HU HK hx RF EF
          as_aux_lemma =>
          go_wp2_with fail
          go_ret
          exact ⟨by unfold small41F; rw [HN.out, Bool.and_false] <;> rfl, rfl⟩
      · have hii : ¬ (i : Int) < (L.length : Int) := by omega
        have he : i = L.length := by omega
        have HN : Hid (L.all smallS = true) := by unfold Hid; have := HK.out; rwa [he, List.take_length] at this
        clear HK he
        go_wp2_with fail
        go_ret
        exact ⟨by unfold small41F; rw [HN.out, HM.out]; rfl, rfl⟩
  · have HM : Hid (decide ((L.length : Int) ≤ 70) = false) := decide_eq_false hm
    have hm1 : (70 : Int) < (L.length : Int) := by omega
    clear hm
    go_enter Tryz.func31, Tryz.ntmps31
    go_wp2_with fail
    go_ret
    exact ⟨by unfold small41F; rw [HM.out]; rfl, rfl⟩
end Go.Proofs.YtghahghbahcpfaaGreatDoor
/- The walks over the reference's SmallJob and SmallView. -/
namespace Go.Proofs.YtghahghbahcpfaaGreatDoor
open Go.RowKit

def smallSt (s : StepM) : Bool := decide ((s.name.size : Int) ≤ 300) && decide ((s.text.size : Int) ≤ 300)
def smallJF (j : JobM) : Bool := (decide ((j.steps.length : Int) ≤ 70) && decide ((j.ncach : Int) ≤ 10)) && (j.steps.all smallSt && (shortF j.inputs 6 100 && (shortF j.uses 20 300 && (shortF j.secrets 20 300 && shortF j.outputs 20 300))))
def SjRel (L : List StepM) (w1 : World) (f : Nat) (t : Value) (wr : World) : Prop :=
  ∃ i : Nat, t = .int .i64 (i : Nat) ∧ i ≤ L.length ∧ f = L.length - i ∧ (L.take i).all smallSt = true ∧ wr = w1
theorem step_at {B : Nat → Prop} {w : World} {L : List StepM} {ao : Option Addr} {n cap : Nat} (h : EStep.Row B w L (.slice ao n cap)) {k : Nat} (hk : k < L.length) :
    ∃ bl off, ao = some ⟨bl, off, none⟩ ∧ bl < w.heap.size ∧ w.cell? ⟨bl, off + k * 4 + 1, none⟩ = some (.string L[k].name) ∧ w.cell? ⟨bl, off + k * 4 + 2, none⟩ = some (.string L[k].text) := by
  obtain ⟨bl, off, cs, e, _, hb, hc, hR⟩ := h.at hk
  have hcs : cs = [.int .i64 L[k].op, .string L[k].name, .string L[k].text, .int .i64 L[k].n] := hR
  subst hcs
  exact ⟨bl, off, e, hb, hc 1 _ rfl, hc 2 _ rfl⟩
set_option maxRecDepth 100000 in
set_option maxHeartbeats 3200000 in
theorem smallJob_any (c : Nat → Value) (j : JobM) (w : World) (hf : JFit j) (hj : JAt w.heap.size c j w) :
    Calls Tryz.prog 9 #[jobA c] w fun e w' => e = .returned (.bool (smallJF j)) ∧ Below w.heap.size w w' := by
  obtain ⟨w1, hw1⟩ : ∃ w1, w.alloc (.cells (jobC c) tJob (0, 0)) = w1 := ⟨_, rfl⟩
  have hk1 : w1.heap[w.heap.size]? = some (.cells (jobC c) tJob (0, 0)) := by rw [← hw1]; exact hp_new rfl
  have hb1 : Below w.heap.size w w1 := by rw [← hw1]; exact (Below.refl _ w).alloc (Nat.le_refl _) _
  have HW1 := Lib.hid hw1
  have HB1 := Lib.hid hb1
  have hj1 := hj.below hb1
  obtain ⟨so, sc, h13⟩ := hj.steps.form
  obtain ⟨co, cc, h27⟩ := hj.caches
  have HR := Lib.hid (h13 ▸ hj1.steps)
  have HSN := Lib.hid hf.stepN
  have zS := hf.steps
  have zC := hf.caches
  have c13 : w1.cell? ⟨w.heap.size, 13, none⟩ = some (.slice so j.steps.length sc) := by rw [← h13]; exact cell_of_blk hk1 13
  have c27 : w1.cell? ⟨w.heap.size, 27, none⟩ = some (.slice co j.ncach cc) := by rw [← h27]; exact cell_of_blk hk1 27
  obtain ⟨o24, k24, h24⟩ := hj.inputs.form
  have c24 : w1.cell? ⟨w.heap.size, 24, none⟩ = some (.slice o24 j.inputs.length k24) := by rw [← h24]; exact cell_of_blk hk1 24
  have R24 := Lib.hid (short_any 6 100 (c 24) j.inputs _ hf.inputs hf.inputN w1 hj1.inputs)
  rw [h24] at R24
  obtain ⟨o25, k25, h25⟩ := hj.uses.form
  have c25 : w1.cell? ⟨w.heap.size, 25, none⟩ = some (.slice o25 j.uses.length k25) := by rw [← h25]; exact cell_of_blk hk1 25
  have R25 := Lib.hid (short_any 20 300 (c 25) j.uses _ hf.uses hf.useN w1 hj1.uses)
  rw [h25] at R25
  obtain ⟨o28, k28, h28⟩ := hj.secrets.form
  have c28 : w1.cell? ⟨w.heap.size, 28, none⟩ = some (.slice o28 j.secrets.length k28) := by rw [← h28]; exact cell_of_blk hk1 28
  have R28 := Lib.hid (short_any 20 300 (c 28) j.secrets _ hf.secrets hf.secretN w1 hj1.secrets)
  rw [h28] at R28
  obtain ⟨o26, k26, h26⟩ := hj.outputs.form
  have c26 : w1.cell? ⟨w.heap.size, 26, none⟩ = some (.slice o26 j.outputs.length k26) := by rw [← h26]; exact cell_of_blk hk1 26
  have R26 := Lib.hid (short_any 20 300 (c 26) j.outputs _ hf.outputs hf.outputN w1 hj1.outputs)
  rw [h26] at R26
  clear hw1 hb1 hj1 hj h13 h27 h24 h25 h26 h28 hk1 hf
  obtain ⟨A, hA⟩ : ∃ A, smallJF j = A := ⟨_, rfl⟩
  have HA := Lib.hid hA
  unfold smallJF at HA
  rw [hA]
  clear hA
  generalize shortF j.inputs 6 100 = b24 at *
  generalize shortF j.uses 20 300 = b25 at *
  generalize shortF j.secrets 20 300 = b28 at *
  generalize shortF j.outputs 20 300 = b26 at *
  generalize j.steps = L at *
  generalize j.ncach = nc at *
  generalize j.inputs.length = nin at *
  generalize j.uses.length = nus at *
  generalize j.secrets.length = nse at *
  generalize j.outputs.length = nou at *
  by_cases h70 : (L.length : Int) ≤ 70
  · have t1 : ¬ (70 : Int) < (L.length : Int) := by omega
    by_cases h10 : (nc : Int) ≤ 10
    · have t2 : ¬ (10 : Int) < (nc : Int) := by omega
      rw [decide_eq_true h70, decide_eq_true h10, Bool.and_self, Bool.true_and] at HA
      clear h70 h10
      go_enter Tryz.func9, Tryz.ntmps9
      go_upto_region 1 with fail
      rw [HW1.out]
      clear HW1
      go_wp2_with fail
      go_loopg [3] L.length (SjRel L w1)
      case atStart => exact ⟨0, rfl, Nat.zero_le _, rfl, rfl, rfl⟩
      case round =>
        obtain ⟨i, rfl, hi, rfl, hk, rfl⟩ := hrel
        have HK := Lib.hid hk
        clear hk t1 t2
        by_cases hlt : i < L.length
        · obtain ⟨bl, off, rfl, _, e1, e2⟩ := step_at HR.out hlt
          have hii : (i : Int) < (L.length : Int) := by omega
          have HT := Lib.hid (take_all_succ hlt HK.out)
          obtain ⟨_, z1, z2, _⟩ := HSN.out _ (List.getElem_mem hlt)
          generalize L[i] = s at *
          have HU : Hid (smallSt s = (decide ((s.name.size : Int) ≤ 300) && decide ((s.text.size : Int) ≤ 300))) := rfl
          by_cases hx : (s.name.size : Int) ≤ 300
          · have q1 : ¬ (300 : Int) < (s.name.size : Int) := by omega
            by_cases hy : (s.text.size : Int) ≤ 300
            · have q2 : ¬ (300 : Int) < (s.text.size : Int) := by omega
              have HN := Lib.hid (HT.out.1 (HU.out.trans (by rw [decide_eq_true hx, decide_eq_true hy]; rfl)))
              clear HT HU HK hx hy HA
              as_aux_lemma =>
              go_wp2_with fail
              go_roundg (L.length - (i + 1))
              case measure => omega
              case rel => exact ⟨i + 1, by go_num, by omega, rfl, HN.out, rfl⟩
            · have q2 : (300 : Int) < (s.text.size : Int) := by omega
              have HN := Lib.hid (HT.out.2 (HU.out.trans (by rw [decide_eq_false hy, Bool.and_false])))
              have HF : Hid (A = false) := by unfold Hid; rw [← HA.out, show L.all smallSt = false from HN.out]; rfl
              clear HT HU HK hx hy HA
              as_aux_lemma =>
              go_wp2_with fail
              go_ret
              exact ⟨by rw [HF.out] <;> rfl, HB1.out⟩
          · have q1 : (300 : Int) < (s.name.size : Int) := by omega
            have HN := Lib.hid (HT.out.2 (HU.out.trans (by rw [decide_eq_false hx]; rfl)))
            have HF : Hid (A = false) := by unfold Hid; rw [← HA.out, show L.all smallSt = false from HN.out]; rfl
            clear HT HU HK hx HA
            as_aux_lemma =>
            go_wp2_with fail
            go_ret
            exact ⟨by rw [HF.out] <;> rfl, HB1.out⟩
        · have hii : ¬ (i : Int) < (L.length : Int) := by omega
          have he : i = L.length := by omega
          have HN : Hid (L.all smallSt = true) := by unfold Hid; have := HK.out; rwa [he, List.take_length] at this
          rw [HN.out, Bool.true_and] at HA
          clear HK he HN
          cases b24 with
          | false =>
            have HF : Hid (A = false) := HA.out.symm.trans (by rfl)
            clear HA
            as_aux_lemma =>
            go_wp2_with fail
            refine R24.out.mono ?_
            rintro e w2 ⟨rfl, rfl⟩
            go_wp2_with fail
            go_ret
            exact ⟨by rw [HF.out] <;> rfl, HB1.out⟩
          | true =>
            cases b25 with
            | false =>
              have HF : Hid (A = false) := HA.out.symm.trans (by rfl)
              clear HA
              as_aux_lemma =>
              go_wp2_with fail
              refine R24.out.mono ?_
              rintro e w2 ⟨rfl, rfl⟩
              go_wp2_with fail
              refine R25.out.mono ?_
              rintro e w2 ⟨rfl, rfl⟩
              go_wp2_with fail
              go_ret
              exact ⟨by rw [HF.out] <;> rfl, HB1.out⟩
            | true =>
              cases b28 with
              | false =>
                have HF : Hid (A = false) := HA.out.symm.trans (by rfl)
                clear HA
                as_aux_lemma =>
                go_wp2_with fail
                refine R24.out.mono ?_
                rintro e w2 ⟨rfl, rfl⟩
                go_wp2_with fail
                refine R25.out.mono ?_
                rintro e w2 ⟨rfl, rfl⟩
                go_wp2_with fail
                refine R28.out.mono ?_
                rintro e w2 ⟨rfl, rfl⟩
                go_wp2_with fail
                go_ret
                exact ⟨by rw [HF.out] <;> rfl, HB1.out⟩
              | true =>
                cases b26 with
                | false =>
                  have HF : Hid (A = false) := HA.out.symm.trans (by rfl)
                  clear HA
                  as_aux_lemma =>
                  go_wp2_with fail
                  refine R24.out.mono ?_
                  rintro e w2 ⟨rfl, rfl⟩
                  go_wp2_with fail
                  refine R25.out.mono ?_
                  rintro e w2 ⟨rfl, rfl⟩
                  go_wp2_with fail
                  refine R28.out.mono ?_
                  rintro e w2 ⟨rfl, rfl⟩
                  go_wp2_with fail
                  refine R26.out.mono ?_
                  rintro e w2 ⟨rfl, rfl⟩
                  go_wp2_with fail
                  go_ret
                  exact ⟨by rw [HF.out] <;> rfl, HB1.out⟩
                | true =>
                  have HF : Hid (A = true) := HA.out.symm.trans (by rfl)
                  clear HA
                  as_aux_lemma =>
                  go_wp2_with fail
                  refine R24.out.mono ?_
                  rintro e w2 ⟨rfl, rfl⟩
                  go_wp2_with fail
                  refine R25.out.mono ?_
                  rintro e w2 ⟨rfl, rfl⟩
                  go_wp2_with fail
                  refine R28.out.mono ?_
                  rintro e w2 ⟨rfl, rfl⟩
                  go_wp2_with fail
                  refine R26.out.mono ?_
                  rintro e w2 ⟨rfl, rfl⟩
                  go_wp2_with fail
                  go_ret
                  exact ⟨by rw [HF.out] <;> rfl, HB1.out⟩
    · have t2 : (10 : Int) < (nc : Int) := by omega
      have HF : Hid (A = false) := by unfold Hid; rw [← HA.out, decide_eq_false h10, Bool.and_false, Bool.false_and]
      clear HA h70 h10
      go_enter Tryz.func9, Tryz.ntmps9
      go_upto_region 1 with fail
      rw [HW1.out]
      clear HW1
      go_wp2_with fail
      go_ret
      exact ⟨by rw [HF.out] <;> rfl, HB1.out⟩
  · have t1 : (70 : Int) < (L.length : Int) := by omega
    have HF : Hid (A = false) := by unfold Hid; rw [← HA.out, decide_eq_false h70, Bool.false_and, Bool.false_and]
    clear HA h70
    go_enter Tryz.func9, Tryz.ntmps9
    go_upto_region 1 with fail
    rw [HW1.out]
    clear HW1
    go_wp2_with fail
    go_ret
    exact ⟨by rw [HF.out] <;> rfl, HB1.out⟩
def smallFl (f : FileM) : Bool := decide ((f.path.size : Int) ≤ 300)
def smallAr (f : OutM) : Bool := decide ((f.name.size : Int) ≤ 300)
def smallVF (v : ViewM) : Bool := (decide ((v.files.length : Int) ≤ 30) && (decide ((v.arts.length : Int) ≤ 30) && (decide ((v.caches.length : Int) ≤ 12) && (decide ((v.times.length : Int) ≤ 60) && small41F v.secs)))) && (v.files.all smallFl && (v.arts.all smallAr && (shortF v.keys 12 600 && (shortF v.tests 40 300 && shortF v.ignored 40 300))))
def SfRel (L : List FileM) (w1 : World) (f : Nat) (t : Value) (wr : World) : Prop :=
  ∃ i : Nat, t = .int .i64 (i : Nat) ∧ i ≤ L.length ∧ f = L.length - i ∧ (L.take i).all smallFl = true ∧ wr = w1
def SaRel (L : List OutM) (w1 : World) (f : Nat) (t : Value) (wr : World) : Prop :=
  ∃ i : Nat, t = .int .i64 (i : Nat) ∧ i ≤ L.length ∧ f = L.length - i ∧ (L.take i).all smallAr = true ∧ wr = w1
theorem file_at {B : Nat → Prop} {w : World} {L : List FileM} {ao : Option Addr} {n cap : Nat} (h : EFile.Row B w L (.slice ao n cap)) {k : Nat} (hk : k < L.length) :
    ∃ bl off, ao = some ⟨bl, off, none⟩ ∧ bl < w.heap.size ∧ w.cell? ⟨bl, off + k * 2, none⟩ = some (.string L[k].path) ∧ w.cell? ⟨bl, off + k * 2 + 1, none⟩ = some (.int .u64 (L[k].dig : Nat)) := by
  obtain ⟨bl, off, cs, e, _, hb, hc, hR⟩ := h.at hk
  have hcs : cs = [.string L[k].path, .int .u64 (L[k].dig : Nat)] := hR
  subst hcs
  exact ⟨bl, off, e, hb, hc 0 _ rfl, hc 1 _ rfl⟩
theorem out_at {B : Nat → Prop} {w : World} {L : List OutM} {ao : Option Addr} {n cap : Nat} (h : EOut.Row B w L (.slice ao n cap)) {k : Nat} (hk : k < L.length) :
    ∃ bl off, ao = some ⟨bl, off, none⟩ ∧ bl < w.heap.size ∧ w.cell? ⟨bl, off + k * 3, none⟩ = some (.string L[k].name) ∧ w.cell? ⟨bl, off + k * 3 + 1, none⟩ = some (.int .u64 (L[k].dig : Nat)) ∧ w.cell? ⟨bl, off + k * 3 + 2, none⟩ = some (.int .i64 L[k].size) := by
  obtain ⟨bl, off, cs, e, _, hb, hc, hR⟩ := h.at hk
  have hcs : cs = [.string L[k].name, .int .u64 (L[k].dig : Nat), .int .i64 L[k].size] := hR
  subst hcs
  exact ⟨bl, off, e, hb, hc 0 _ rfl, hc 1 _ rfl, hc 2 _ rfl⟩
set_option maxRecDepth 100000 in
set_option maxHeartbeats 3200000 in
theorem smallView_any (c : Nat → Value) (v : ViewM) (w : World) (hf : VFit v) (hv : VAt w.heap.size c v w) :
    Calls Tryz.prog 10 #[viewA c] w fun e w' => e = .returned (.bool (smallVF v)) ∧ Below w.heap.size w w' := by
  obtain ⟨w1, hw1⟩ : ∃ w1, w.alloc (.cells (viewC c) tView (0, 0)) = w1 := ⟨_, rfl⟩
  have hk1 : w1.heap[w.heap.size]? = some (.cells (viewC c) tView (0, 0)) := by rw [← hw1]; exact hp_new rfl
  have hb1 : Below w.heap.size w w1 := by rw [← hw1]; exact (Below.refl _ w).alloc (Nat.le_refl _) _
  have HW1 := Lib.hid hw1
  have HB1 := Lib.hid hb1
  have hv1 := hv.below hb1
  have HFN := Lib.hid hf.fileN
  have HAN := Lib.hid hf.artN
  have zF := hf.files
  have zA := hf.arts
  have zC := hf.caches
  have zT := hf.times
  obtain ⟨o39, k39, h39⟩ := hv.files.form
  have c39 : w1.cell? ⟨w.heap.size, 0, none⟩ = some (.slice o39 v.files.length k39) := by rw [← h39]; exact cell_of_blk hk1 0
  obtain ⟨o40, k40, h40⟩ := hv.arts.form
  have c40 : w1.cell? ⟨w.heap.size, 1, none⟩ = some (.slice o40 v.arts.length k40) := by rw [← h40]; exact cell_of_blk hk1 1
  obtain ⟨o42, k42, h42⟩ := hv.caches.form
  have c42 : w1.cell? ⟨w.heap.size, 3, none⟩ = some (.slice o42 v.caches.length k42) := by rw [← h42]; exact cell_of_blk hk1 3
  obtain ⟨o45, k45, h45⟩ := hv.times.form
  have c45 : w1.cell? ⟨w.heap.size, 6, none⟩ = some (.slice o45 v.times.length k45) := by rw [← h45]; exact cell_of_blk hk1 6
  obtain ⟨o41, k41, h41⟩ := hv.secs.form
  have c41 : w1.cell? ⟨w.heap.size, 2, none⟩ = some (.slice o41 v.secs.length k41) := by rw [← h41]; exact cell_of_blk hk1 2
  obtain ⟨o43, k43, h43⟩ := hv.keys.form
  have c43 : w1.cell? ⟨w.heap.size, 4, none⟩ = some (.slice o43 v.keys.length k43) := by rw [← h43]; exact cell_of_blk hk1 4
  obtain ⟨o44, k44, h44⟩ := hv.tests.form
  have c44 : w1.cell? ⟨w.heap.size, 5, none⟩ = some (.slice o44 v.tests.length k44) := by rw [← h44]; exact cell_of_blk hk1 5
  obtain ⟨o46, k46, h46⟩ := hv.ign.form
  have c46 : w1.cell? ⟨w.heap.size, 7, none⟩ = some (.slice o46 v.ignored.length k46) := by rw [← h46]; exact cell_of_blk hk1 7
  have HRF := Lib.hid (h39 ▸ hv1.files)
  have HRA := Lib.hid (h40 ▸ hv1.arts)
  have S41 := Lib.hid (small41_any (c 41) v.secs _ hf.secs hf.secN w1 hv1.secs)
  rw [h41] at S41
  have R43 := Lib.hid (short_any 12 600 (c 43) v.keys _ hf.keys hf.keyN w1 hv1.keys)
  rw [h43] at R43
  have R44 := Lib.hid (short_any 40 300 (c 44) v.tests _ hf.tests hf.testN w1 hv1.tests)
  rw [h44] at R44
  have R46 := Lib.hid (short_any 40 300 (c 46) v.ignored _ hf.ign hf.ignN w1 hv1.ign)
  rw [h46] at R46
  clear hw1 hb1 hv1 hv hk1 hf h39 h40 h41 h42 h43 h44 h45 h46
  obtain ⟨A, hA⟩ : ∃ A, smallVF v = A := ⟨_, rfl⟩
  have HA := Lib.hid hA
  unfold smallVF at HA
  rw [hA]
  clear hA
  generalize shortF v.keys 12 600 = b43 at *
  generalize shortF v.tests 40 300 = b44 at *
  generalize shortF v.ignored 40 300 = b46 at *
  generalize small41F v.secs = b41 at *
  generalize v.files = L at *
  generalize v.arts = M at *
  generalize v.caches.length = nc at *
  generalize v.times.length = nt at *
  generalize v.secs.length = ns at *
  generalize v.keys.length = nk at *
  generalize v.tests.length = nq at *
  generalize v.ignored.length = ni at *
  by_cases h0 : (L.length : Int) ≤ 30
  · have t1 : ¬ (30 : Int) < (L.length : Int) := by omega
    rw [decide_eq_true h0, Bool.true_and] at HA
    clear h0
    by_cases h1 : (M.length : Int) ≤ 30
    · have t2 : ¬ (30 : Int) < (M.length : Int) := by omega
      rw [decide_eq_true h1, Bool.true_and] at HA
      clear h1
      by_cases h2 : (nc : Int) ≤ 12
      · have t3 : ¬ (12 : Int) < (nc : Int) := by omega
        rw [decide_eq_true h2, Bool.true_and] at HA
        clear h2
        by_cases h3 : (nt : Int) ≤ 60
        · have t4 : ¬ (60 : Int) < (nt : Int) := by omega
          rw [decide_eq_true h3, Bool.true_and] at HA
          clear h3
          cases b41 with
          | false =>
            have HF : Hid (A = false) := HA.out.symm.trans (by rfl)
            clear HA
            as_aux_lemma =>
            go_enter Tryz.func10, Tryz.ntmps10
            go_upto_region 1 with fail
            rw [HW1.out]
            clear HW1
            go_wp2_with fail
            refine S41.out.mono ?_
            rintro e w2 ⟨rfl, hw2⟩
            obtain rfl := hw2.symm
            go_wp2_with fail
            go_ret
            exact ⟨by rw [HF.out] <;> rfl, HB1.out⟩
          | true =>
            rw [Bool.true_and] at HA
            go_enter Tryz.func10, Tryz.ntmps10
            go_upto_region 1 with fail
            rw [HW1.out]
            clear HW1
            go_wp2_with fail
            refine S41.out.mono ?_
            rintro e w2 ⟨rfl, hw2⟩
            obtain rfl := hw2.symm
            go_wp2_with fail
            go_loopg [3] L.length (SfRel L w1)
            case atStart => exact ⟨0, rfl, Nat.zero_le _, rfl, rfl, rfl⟩
            case round =>
              obtain ⟨i, rfl, hi, rfl, hk, hwr⟩ := hrel
              obtain rfl := hwr.symm
              have HK := Lib.hid hk
              clear hk
              by_cases hlt : i < L.length
              · obtain ⟨bl, off, rfl, _, e1, _⟩ := file_at HRF.out hlt
                have hii : (i : Int) < (L.length : Int) := by omega
                have HT := Lib.hid (take_all_succ hlt HK.out)
                obtain ⟨z1, _⟩ := HFN.out _ (List.getElem_mem hlt)
                generalize L[i] = s at *
                have HU : Hid (smallFl s = decide ((s.path.size : Int) ≤ 300)) := rfl
                by_cases hx : (s.path.size : Int) ≤ 300
                · have q1 : ¬ (300 : Int) < (s.path.size : Int) := by omega
                  have HN := Lib.hid (HT.out.1 (HU.out.trans (decide_eq_true hx)))
                  clear HT HU HK hx HA
                  as_aux_lemma =>
                  go_wp2_with fail
                  go_roundg (L.length - (i + 1))
                  case measure => omega
                  case rel => exact ⟨i + 1, by go_num, by omega, rfl, HN.out, rfl⟩
                · have q1 : (300 : Int) < (s.path.size : Int) := by omega
                  have HN := Lib.hid (HT.out.2 (HU.out.trans (decide_eq_false hx)))
                  have HF : Hid (A = false) := by unfold Hid; rw [← HA.out, show L.all smallFl = false from HN.out] <;> rfl
                  clear HT HU HK hx HA
                  as_aux_lemma =>
                  go_wp2_with fail
                  go_ret
                  exact ⟨by rw [HF.out] <;> rfl, HB1.out⟩
              · have hii : ¬ (i : Int) < (L.length : Int) := by omega
                have he : i = L.length := by omega
                have HN : Hid (L.all smallFl = true) := by unfold Hid; have := HK.out; rwa [he, List.take_length] at this
                rw [HN.out, Bool.true_and] at HA
                clear HK he HN
                go_wp2_with fail
                go_loopg [4] M.length (SaRel M w1)
                case atStart => exact ⟨0, rfl, Nat.zero_le _, rfl, rfl, rfl⟩
                case round =>
                  obtain ⟨i, rfl, hi, rfl, hk, hwr⟩ := hrel
                  obtain rfl := hwr.symm
                  have HK := Lib.hid hk
                  clear hk
                  by_cases hlt : i < M.length
                  · obtain ⟨bl, off, rfl, _, e1, _⟩ := out_at HRA.out hlt
                    have hii : (i : Int) < (M.length : Int) := by omega
                    have HT := Lib.hid (take_all_succ hlt HK.out)
                    obtain ⟨z1, _⟩ := HAN.out _ (List.getElem_mem hlt)
                    generalize M[i] = s at *
                    have HU : Hid (smallAr s = decide ((s.name.size : Int) ≤ 300)) := rfl
                    by_cases hx : (s.name.size : Int) ≤ 300
                    · have q1 : ¬ (300 : Int) < (s.name.size : Int) := by omega
                      have HN := Lib.hid (HT.out.1 (HU.out.trans (decide_eq_true hx)))
                      clear HT HU HK hx HA
                      as_aux_lemma =>
                      go_wp2_with fail
                      go_roundg (M.length - (i + 1))
                      case measure => omega
                      case rel => exact ⟨i + 1, by go_num, by omega, rfl, HN.out, rfl⟩
                    · have q1 : (300 : Int) < (s.name.size : Int) := by omega
                      have HN := Lib.hid (HT.out.2 (HU.out.trans (decide_eq_false hx)))
                      have HF : Hid (A = false) := by unfold Hid; rw [← HA.out, show M.all smallAr = false from HN.out] <;> rfl
                      clear HT HU HK hx HA
                      as_aux_lemma =>
                      go_wp2_with fail
                      go_ret
                      exact ⟨by rw [HF.out] <;> rfl, HB1.out⟩
                  · have hii : ¬ (i : Int) < (M.length : Int) := by omega
                    have he : i = M.length := by omega
                    have HN : Hid (M.all smallAr = true) := by unfold Hid; have := HK.out; rwa [he, List.take_length] at this
                    rw [HN.out, Bool.true_and] at HA
                    clear HK he HN
                    cases b43 with
                    | false =>
                      have HF : Hid (A = false) := HA.out.symm.trans (by rfl)
                      clear HA
                      as_aux_lemma =>
                      go_wp2_with fail
                      refine R43.out.mono ?_
                      rintro e w2 ⟨rfl, rfl⟩
                      go_wp2_with fail
                      go_ret
                      exact ⟨by rw [HF.out] <;> rfl, HB1.out⟩
                    | true =>
                      cases b44 with
                      | false =>
                        have HF : Hid (A = false) := HA.out.symm.trans (by rfl)
                        clear HA
                        as_aux_lemma =>
                        go_wp2_with fail
                        refine R43.out.mono ?_
                        rintro e w2 ⟨rfl, rfl⟩
                        go_wp2_with fail
                        refine R44.out.mono ?_
                        rintro e w2 ⟨rfl, rfl⟩
                        go_wp2_with fail
                        go_ret
                        exact ⟨by rw [HF.out] <;> rfl, HB1.out⟩
                      | true =>
                        cases b46 with
                        | false =>
                          have HF : Hid (A = false) := HA.out.symm.trans (by rfl)
                          clear HA
                          as_aux_lemma =>
                          go_wp2_with fail
                          refine R43.out.mono ?_
                          rintro e w2 ⟨rfl, rfl⟩
                          go_wp2_with fail
                          refine R44.out.mono ?_
                          rintro e w2 ⟨rfl, rfl⟩
                          go_wp2_with fail
                          refine R46.out.mono ?_
                          rintro e w2 ⟨rfl, rfl⟩
                          go_wp2_with fail
                          go_ret
                          exact ⟨by rw [HF.out] <;> rfl, HB1.out⟩
                        | true =>
                          have HF : Hid (A = true) := HA.out.symm.trans (by rfl)
                          clear HA
                          as_aux_lemma =>
                          go_wp2_with fail
                          refine R43.out.mono ?_
                          rintro e w2 ⟨rfl, rfl⟩
                          go_wp2_with fail
                          refine R44.out.mono ?_
                          rintro e w2 ⟨rfl, rfl⟩
                          go_wp2_with fail
                          refine R46.out.mono ?_
                          rintro e w2 ⟨rfl, rfl⟩
                          go_wp2_with fail
                          go_ret
                          exact ⟨by rw [HF.out] <;> rfl, HB1.out⟩
        · have t4 : (60 : Int) < (nt : Int) := by omega
          have HF : Hid (A = false) := by unfold Hid; rw [← HA.out, decide_eq_false h3] <;> rfl
          clear HA h3
          as_aux_lemma =>
          go_enter Tryz.func10, Tryz.ntmps10
          go_upto_region 1 with fail
          rw [HW1.out]
          clear HW1
          go_wp2_with fail
          go_ret
          exact ⟨by rw [HF.out] <;> rfl, HB1.out⟩
      · have t3 : (12 : Int) < (nc : Int) := by omega
        have HF : Hid (A = false) := by unfold Hid; rw [← HA.out, decide_eq_false h2] <;> rfl
        clear HA h2
        as_aux_lemma =>
        go_enter Tryz.func10, Tryz.ntmps10
        go_upto_region 1 with fail
        rw [HW1.out]
        clear HW1
        go_wp2_with fail
        go_ret
        exact ⟨by rw [HF.out] <;> rfl, HB1.out⟩
    · have t2 : (30 : Int) < (M.length : Int) := by omega
      have HF : Hid (A = false) := by unfold Hid; rw [← HA.out, decide_eq_false h1] <;> rfl
      clear HA h1
      as_aux_lemma =>
      go_enter Tryz.func10, Tryz.ntmps10
      go_upto_region 1 with fail
      rw [HW1.out]
      clear HW1
      go_wp2_with fail
      go_ret
      exact ⟨by rw [HF.out] <;> rfl, HB1.out⟩
  · have t1 : (30 : Int) < (L.length : Int) := by omega
    have HF : Hid (A = false) := by unfold Hid; rw [← HA.out, decide_eq_false h0] <;> rfl
    clear HA h0
    as_aux_lemma =>
    go_enter Tryz.func10, Tryz.ntmps10
    go_upto_region 1 with fail
    rw [HW1.out]
    clear HW1
    go_wp2_with fail
    go_ret
    exact ⟨by rw [HF.out] <;> rfl, HB1.out⟩
end Go.Proofs.YtghahghbahcpfaaGreatDoor
