/- The walk over distances: breadth first. -/
import Derived.Test.YtfegmmafcopbpaaGreatDoorGm1
namespace Go.Proofs.YtfegmmafcopbpaaGreatDoor
open Go.RowKit

theorem Tryz.info3 : (Tryz.prog.info? 3).map (fun i => (i.zero, i.size, i.bytes)) = some (some (.int .i64 0), 1, 8) := by kernel_rfl
theorem Tryz.info3' : ∃ i, Tryz.prog.info? 3 = some i ∧ i.zero = some (.int .i64 0) ∧ i.size = 1 ∧ i.bytes = 8 := info_parts Tryz.info3

abbrev oV (o : Nat → Nat) : Nat → Value := fun k => intV (o k)

def DisOut (w0 : World) (n start : Nat) (next : Nat → List Nat) (f : Nat) (t6 t7 : Value) (wr : World) : Prop :=
  ∃ (o : Nat → Nat) (todo : List Nat) (step : Nat), t7 = .int .i64 (step : Nat) ∧ 1 ≤ step ∧ step + f = n + 2 ∧ (∀ x ∈ todo, x < n) ∧ (todo = [] ∨ zeros n o + 1 ≤ f) ∧ todo.length ≤ n + 1 ∧
    distTo next f step o todo = distF next n start ∧ Kp w0.heap.size (fun _ => False) w0 wr ∧ wr.rowIs w0.heap.size 3 n (oV o) ∧ IRow wr (w0.heap.size + 1) t6 todo

def DisMid (B : Nat) (wR : World) (n step : Nat) (next : Nat → List Nat) (todo : List Nat) (s0 : DS) (f : Nat) (t25 t8 : Value) (wr : World) : Prop :=
  ∃ (i : Nat) (s : DS), t25 = .int .i64 (i : Nat) ∧ i ≤ todo.length ∧ f = todo.length - i ∧ layD next step s (todo.drop i) = s0 ∧ (∀ x ∈ s.2, x < n) ∧ zeros n s.1 + s.2.length ≤ n ∧
    Kp wR.heap.size (· = B) wR wr ∧ wr.rowIs B 3 n (oV s.1) ∧ IRow wr wR.heap.size t8 s.2

def DisIn (B : Nat) (wR : World) (n step : Nat) (ks : List Nat) (s0 : DS) (f : Nat) (t34 t8 : Value) (wr : World) : Prop :=
  ∃ (j : Nat) (s : DS), t34 = .int .i64 (j : Nat) ∧ j ≤ ks.length ∧ f = ks.length - j ∧ rowD step s (ks.drop j) = s0 ∧ (∀ x ∈ s.2, x < n) ∧ zeros n s.1 + s.2.length ≤ n ∧
    Kp wR.heap.size (· = B) wR wr ∧ wr.rowIs B 3 n (oV s.1) ∧ IRow wr wR.heap.size t8 s.2

def DisPost (B : Nat) (wR : World) (n : Nat) (s0 : DS) (t8 : Value) (wr : World) : Prop := Kp wR.heap.size (· = B) wR wr ∧ wr.rowIs B 3 n (oV s0.1) ∧ IRow wr wR.heap.size t8 s0.2

set_option maxRecDepth 100000 in
set_option maxHeartbeats 1600000 in
theorem distances_any (v : Value) (n start : Nat) (next : Nat → List Nat) (hn : ∀ i, ∀ k ∈ next i, k < n) (hdeg : ∀ i, (next i).length ≤ 1024) (hn1 : n ≤ 1024) (hst : start < n) (w : World) (h : MatAt w v n next) :
    Calls Tryz.prog 42 #[intV start, v] w fun e w' => ∃ b, e = .returned (.slice (some ⟨b, 0, none⟩) n n) ∧ w.heap.size ≤ b ∧ w'.rowIs b 3 n (oV (distF next n start)) ∧ Below w.heap.size w w' := by
  obtain ⟨mb, V, rfl, hM, hV⟩ := h
  have HM := Lib.hid hM
  have HV := Lib.hid hV
  have HN := Lib.hid hn
  have hmb := hM.lt
  obtain ⟨i3, hi3⟩ := Tryz.info3'
  have HI := Lib.hid hi3
  have hmk := run_make_row' (P := Tryz.prog) 40 3 (.int .i64 0) 8 Tryz.underlying40 Tryz.info3 rfl .i64 .i64 n (by omega) (by omega)
  clear hM hV hn hi3
  go_enter Tryz.func42, Tryz.ntmps42
  go_wp2_with fail
  clear hmk
  go_loopg [6, 7] (n + 1) (DisOut w n start next)
  case atStart =>
    refine ⟨fun _ => 0, [start], 1, rfl, Nat.le_refl _, by omega, by simpa using hst, .inr (by have := zeros_le n (fun _ => 0); omega), by simp, rfl, ?_, ?_, ?_⟩
    · exact ((Kp.refl _ _ w).alloc (Nat.le_refl _) _).alloc (by simp) _
    · exact (World.rowIs_made w (.int .i64 0) n 3).alloc _
    · refine ⟨rfl, .inr ⟨w.heap.size + 1, 1, #[intV start], ?_, Nat.le_refl _, ?_, Nat.le_refl _, by unfold maxLen; omega, rfl, rfl⟩⟩
      · simp
      · exact hp_new (by simp)
  case round =>
    obtain ⟨o, todo, step, rfl, hs1, hsf, hlt, hz, htl, hD, hkp, hrow, htodo⟩ := hrel
    obtain ⟨tao, tcap, rfl⟩ := htodo.form
    have HT := Lib.hid htodo
    have HK := Lib.hid hkp
    have HR := Lib.hid hrow
    have HLT := Lib.hid hlt
    have HD := Lib.hid hD
    have hBl := hrow.lt
    clear htodo hkp hrow hlt hD
    by_cases h0 : todo = []
    · have HF : Hid (distF next n start = o) := by
        unfold Hid; rw [← HD.out, h0]
        cases gk <;> rfl
      have hl0 : todo.length = 0 := by rw [h0]; rfl
      clear h0
      go_wp2_with fail
      go_ret
      refine ⟨w.heap.size, rfl, Nat.le_refl _, ?_, HK.out.below (Nat.le_refl _) (fun _ _ => id)⟩
      rw [HF.out]
      exact HR.out
    · have hpos : 0 < todo.length := List.length_pos_iff.2 h0
      have hposi : (0 : Int) < (todo.length : Int) := by omega
      have hzf : zeros n o + 1 ≤ gk := by
        rcases hz with h1 | h1
        · exact absurd h1 h0
        · exact h1
      obtain ⟨f, rfl⟩ : ∃ f', gk = f' + 1 := ⟨gk - 1, by omega⟩
      have HD2 : Hid (distTo next f (step + 1) (layD next step (o, []) todo).1 (layD next step (o, []) todo).2 = distF next n start) := by
        unfold Hid; rw [← HD.out, distTo, if_neg h0]
      have HZ := Lib.hid (layD_zeros (next := next) (n := n) HN.out (show 0 < step by omega) todo (o, []))
      have HLL := Lib.hid (layD_lt (next := next) (step := step) (n := n) HN.out todo (o, []) (by intro x hx; cases hx))
      have HZ0 := Lib.hid (zeros_le n o)
      generalize hs0 : layD next step (o, []) todo = s0 at *
      have HS0 := Lib.hid hs0
      clear h0 hz hs0 HD
      generalize wr = wo at *
      have HMV : Hid (∀ W, Kp wo.heap.size (· = w.heap.size) wo W → W.rowIs mb 40 n V ∧ ∀ r, r < n → IntsAt W (V r) (next r)) := fun W hW => by
        have hb : Below w.heap.size w W := (HK.out.below (Nat.le_refl _) (fun _ _ => id)).trans (hW.below (Nat.le_of_lt hBl) (fun k hk => Nat.ne_of_lt hk))
        exact ⟨HM.out.of_block (hb.block _ hmb), fun r hr => SlAt.below (HV.out r hr) hb⟩
      have HTW : Hid (∀ W, Kp wo.heap.size (· = w.heap.size) wo W → IntsAt W (.slice tao todo.length tcap) todo) := fun W hW =>
        (HT.out.kp hW (fun k hk => ⟨(HT.out.lt k hk).2, by have := (HT.out.lt k hk).1; omega⟩)).at
      go_upto_block 2 with fail
      go_cut [8] (fun s8 wx => DisPost w.heap.size wo n s0 s8 wx)
      case first =>
        go_wp2_with fail
        go_loopg [25, 8] todo.length (DisMid w.heap.size wo n step next todo s0)
        case atStart =>
          exact ⟨0, (o, []), rfl, Nat.zero_le _, rfl, HS0.out, by simp, by simpa using HZ0.out, Kp.refl _ _ _, HR.out, IRow.nil _ _⟩
        case round =>
          obtain ⟨i, s, rfl, hi, hif, hs, hsl, hsz, hkp, hrow, hmore⟩ := hrel
          subst hif
          obtain ⟨mao, mcap, rfl⟩ := hmore.form
          have HKP := Lib.hid hkp
          have HROW := Lib.hid hrow
          have HMORE := Lib.hid hmore
          have HSS := Lib.hid hs
          have HSL := Lib.hid hsl
          have HSZ := Lib.hid hsz
          clear hkp hrow hmore hs hsl hsz
          by_cases hilt : i < todo.length
          · have hii : (i : Int) < (todo.length : Int) := by omega
            obtain ⟨tb, toff, rfl, htb, htc⟩ := (HTW.out wr HKP.out).at1 hilt
            have hx : todo.getD i 0 < n := HLT.out _ (getD_at hilt)
            have hxi : ((todo.getD i 0 : Nat) : Int) < (n : Int) := by omega
            obtain ⟨hMr, hVr⟩ := HMV.out wr HKP.out
            have hcx := hMr.cell hx
            have hvx := hVr _ hx
            have HVW : Hid (∀ W, Kp wo.heap.size (· = w.heap.size) wo W → IntsAt W (V (todo.getD i 0)) (next (todo.getD i 0))) := fun W hW => (HMV.out W hW).2 _ hx
            have HS1 : Hid (layD next step (rowD step s (next (todo.getD i 0))) (todo.drop (i + 1)) = s0) := by
              unfold Hid; rw [← HSS.out, drop_at hilt]; rfl
            have HNX := Lib.hid (HN.out (todo.getD i 0))
            have hdg := hdeg (todo.getD i 0)
            have HZ1 := Lib.hid (rowD_zeros (n := n) (show 0 < step by omega) (next (todo.getD i 0)) s HNX.out)
            have HL1 := Lib.hid (rowD_lt (n := n) (step := step) (next (todo.getD i 0)) s HNX.out HSL.out)
            clear hMr hVr
            generalize todo.getD i 0 = x at *
            generalize V x = vx at *
            obtain ⟨xao, xcap, rfl⟩ := SlAt.form hvx
            clear hvx
            generalize hks : next x = ks at *
            clear hks
            generalize hs1 : rowD step s ks = s1 at *
            have HS1E := Lib.hid hs1
            clear hs1
            generalize wr = wm at *
            go_upto_block 3 with fail
            go_cut [8] (fun s8 wx => DisPost w.heap.size wo n s1 s8 wx)
            case first =>
              go_wp2_with fail
              go_loopg [34, 8] ks.length (DisIn w.heap.size wo n step ks s1)
              case atStart =>
                exact ⟨0, s, rfl, Nat.zero_le _, rfl, HS1E.out, HSL.out, HSZ.out, HKP.out, HROW.out, HMORE.out⟩
              case round =>
                obtain ⟨j, q, rfl, hj, hjf, hq, hql, hqz, hkp, hrow, hmore⟩ := hrel
                subst hjf
                obtain ⟨qao, qcap, rfl⟩ := hmore.form
                have HKQ := Lib.hid hkp
                have HRQ := Lib.hid hrow
                have HMQ := Lib.hid hmore
                have HQ := Lib.hid hq
                have HQL := Lib.hid hql
                have HQZ := Lib.hid hqz
                clear hkp hrow hmore hq hql hqz
                by_cases hjlt : j < ks.length
                · have hjj : (j : Int) < (ks.length : Int) := by omega
                  obtain ⟨xb, xoff, rfl, hxb, hxc⟩ := (HVW.out wr HKQ.out).at1 hjlt
                  have hk := HNX.out _ (getD_at hjlt)
                  have hki : ((ks.getD j 0 : Nat) : Int) < (n : Int) := by omega
                  have HQ1 : Hid (rowD step (visD step q (ks.getD j 0)) (ks.drop (j + 1)) = s1) := by
                    unfold Hid; rw [← HQ.out, drop_at hjlt]; rfl
                  have HV1 := Lib.hid (visD_zeros (n := n) (show 0 < step by omega) (s := q) hk)
                  have HV2 := Lib.hid (visD_lt (step := step) (s := q) hk HQL.out)
                  have hck := HRQ.out.cell hk
                  generalize ks.getD j 0 = k at *
                  by_cases hk0 : q.1 k = 0
                  · have hvis : visD step q k = (fun j => if j = k then step else q.1 j, q.2 ++ [k]) := by unfold visD; rw [if_pos hk0]
                    have hck0 : wr.cell? ⟨w.heap.size, k, none⟩ = some (intV 0) := by rw [hck]; show some (intV (q.1 k)) = _; rw [hk0]
                    have hfz := HRQ.out.frozen k
                    have HQ2 : Hid (rowD step (fun j => if j = k then step else q.1 j, q.2 ++ [k]) (ks.drop (j + 1)) = s1) := by unfold Hid; rw [← hvis]; exact HQ1.out
                    have HV3 : Hid (zeros n (fun j => if j = k then step else q.1 j) + (q.2 ++ [k]).length = zeros n q.1 + q.2.length) := by unfold Hid; have := HV1.out; rw [hvis] at this; exact this
                    have HV4 : Hid (∀ x ∈ q.2 ++ [k], x < n) := by unfold Hid; have := HV2.out; rw [hvis] at this; exact this
                    have HK5 := Lib.hid (HKQ.out.setCell w.heap.size k (intV step) (.inr rfl))
                    have HR5 : Hid ((wr.setCell ⟨w.heap.size, k, none⟩ (intV step)).rowIs w.heap.size 3 n (oV fun j => if j = k then step else q.1 j)) := (HRQ.out.set k (intV step)).congr fun j _ => by
                      show _ = intV (if j = k then step else q.1 j)
                      by_cases e : j = k
                      · rw [if_pos e, if_pos e]
                      · rw [if_neg e, if_neg e]
                    have hqs : q.2.length ≤ n := by have := HQZ.out; omega
                    have HM5 : Hid (IRow (wr.setCell ⟨w.heap.size, k, none⟩ (intV step)) wo.heap.size (.slice qao q.2.length qcap) q.2) := HMQ.out.kp ((Kp.refl wr.heap.size (· = w.heap.size) wr).setCell w.heap.size k (intV step) (.inr rfl)) fun b hb => ⟨(HMQ.out.lt b hb).2, by have := (HMQ.out.lt b hb).1; omega⟩
                    clear hck hk0 hvis HQ1 HV1 HV2
                    go_upto_region 15 with fail
                    clear hck0 hfz
                    generalize wr.setCell ⟨w.heap.size, k, none⟩ (intV step) = w5 at *
                    as_aux_lemma =>
                    go_wp2_with (at_builtin; refine wpList_append2 rfl _ _ 40 rfl wo.heap.size 3 i3 (.int .i64 0) 1 8 Tryz.underlying40 HI.out rfl (by decide) _ _ _ rfl (World.ownsRow.alloc HM5.out _) ⟨w5.heap.size, 0, none⟩ 1 1 [intV k] rfl rfl (cells_newAt rfl _ 3 (0, 0)) rfl (by unfold maxLen; omega) (by omega) (by have := HK5.out.size; simp; omega) ?_)
                    intro v' w6 hown hgrow hwh
                    obtain ⟨ao', cap', rfl⟩ := ownsRow_form hown
                    have hal : Kp wo.heap.size (· = w.heap.size) wo (w5.alloc (.cells [intV k].toArray 3 (0, 0))) := HK5.out.alloc HK5.out.size _
                    have HK6 := Lib.hid (hal.grown hgrow hal.size fun b hb => .inl (HM5.out.lt b hb).1)
                    have HR6 : Hid (w6.rowIs w.heap.size 3 n (oV fun j => if j = k then step else q.1 j)) := (HR5.out.alloc _).of_block (hgrow.block _ (by have := HK5.out.size; simp; omega) fun e => by have := (HM5.out.lt _ e.symm).1; omega)
                    have HM6 := Lib.hid (IRow.add hown)
                    clear hown hgrow hwh hal
                    go_wp2_with fail
                    go_roundg (ks.length - (j + 1))
                    case measure => omega
                    case rel => exact ⟨j + 1, (fun j => if j = k then step else q.1 j, q.2 ++ [k]), by go_num, by omega, rfl, HQ2.out, HV4.out, (by rw [HV3.out]; exact HQZ.out), HK6.out, HR6.out, by simpa using HM6.out⟩
                  · have hvis : visD step q k = q := by unfold visD; rw [if_neg hk0]
                    have hne : (((q.1 k : Nat) : Int) == 0) = false := by rw [beq_eq_false_iff_ne]; omega
                    have HQ2 : Hid (rowD step q (ks.drop (j + 1)) = s1) := by unfold Hid; have := HQ1.out; rw [hvis] at this; exact this
                    clear hvis HQ1 HV1 HV2
                    as_aux_lemma =>
                    go_wp2_with fail
                    go_roundg (ks.length - (j + 1))
                    case measure => omega
                    case rel => exact ⟨j + 1, q, by go_num, by omega, rfl, HQ2.out, HQL.out, HQZ.out, HKQ.out, HRQ.out, HMQ.out⟩
                · have hje : j = ks.length := by omega
                  subst hje
                  have HE : Hid (q = s1) := by
                    unfold Hid; rw [← HQ.out, List.drop_length]; rfl
                  go_wp2_with fail
                  go_meet
                  rw [← HE.out]
                  exact ⟨HKQ.out, HRQ.out, HMQ.out⟩
            case rest =>
              obtain ⟨h1, h2, h3⟩ := hcut
              have HK1 := Lib.hid h1
              have HR1 := Lib.hid h2
              have HM1 := Lib.hid h3
              clear h1 h2 h3
              go_wp2_with fail
              go_roundg (todo.length - (i + 1))
              case measure => omega
              case rel => exact ⟨i + 1, s1, by go_num, by omega, rfl, HS1.out, HL1.out, (by rw [HZ1.out]; exact HSZ.out), HK1.out, HR1.out, HM1.out⟩
          · have hie : i = todo.length := by omega
            subst hie
            have HE : Hid (s = s0) := by
              unfold Hid; rw [← HSS.out, List.drop_length]; rfl
            go_wp2_with fail
            go_meet
            rw [← HE.out]
            exact ⟨HKP.out, HROW.out, HMORE.out⟩
      case rest =>
        obtain ⟨h1, h2, h3⟩ := hcut
        have HK1 := Lib.hid h1
        have HR1 := Lib.hid h2
        have HM1 := Lib.hid h3
        clear h1 h2 h3
        go_wp2_with fail
        go_roundg f
        case measure => omega
        case rel =>
          have hz2 := HZ.out
          simp only [List.length_nil, Nat.add_zero] at hz2
          refine ⟨s0.1, s0.2, step + 1, by go_num, by omega, by omega, HLL.out, ?_, by omega, HD2.out, HK.out.trans (HK1.out.mono (Nat.le_of_lt hBl) (fun k hk e => absurd e (Nat.ne_of_lt hk))), HR1.out, HM1.out.base (by omega)⟩
          by_cases he : s0.2 = []
          · exact .inl he
          · have := List.length_pos_iff.2 he
            exact .inr (by omega)
end Go.Proofs.YtfegmmafcopbpaaGreatDoor
