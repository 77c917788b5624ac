/- The walk over report.Valid. -/
import Derived.Test.YtngbjnjkcniabaaGreatDoorRp7
namespace Go.Proofs.YtngbjnjkcniabaaGreatDoor
open Go.RowKit

theorem data_injR {x y : ByteArray} (h : x.data.toList = y.data.toList) : x = y := by cases x; cases y; simp at h; simp [h]
def badR (q : Qu) : Prop := partsF q.name.data.toList ≠ 0 ∨ q.since < 1 ∨ 3 < q.since
def rangeR (q : Qu) : Prop := q.til < 0 ∨ 1125899906842624 < q.til
instance (q : Qu) : Decidable (badR q) := by unfold badR; exact inferInstance
instance (q : Qu) : Decidable (rangeR q) := by unfold rangeR; exact inferInstance
/-- the error's number of some results, others having come before -/
def vTo (acc : List Qu) : List Qu → Nat
  | [] => 0
  | q :: l => if badR q then 1 else if rangeR q then 2 else if q.name.data.toList ∈ acc.map (·.name.data.toList) then 7 else vTo (acc ++ [q]) l
def validR (rs : List Qu) : Nat := if 4096 < rs.length then 15 else vTo [] rs
theorem vTo_at {rs : List Qu} {k : Nat} (hk : k < rs.length) : vTo (rs.take k) (rs.drop k) = if badR rs[k] then 1 else if rangeR rs[k] then 2 else if rs[k].name.data.toList ∈ (rs.take k).map (·.name.data.toList) then 7 else vTo (rs.take (k + 1)) (rs.drop (k + 1)) := by
  rw [List.drop_eq_getElem_cons hk, vTo, List.take_add_one, List.getElem?_eq_getElem hk]
  rfl

def RVRel (w : World) (rs : List Qu) (f : Nat) (t14 : Value) (wr : World) : Prop :=
  ∃ k : Nat, t14 = .int .i64 (k : Nat) ∧ k ≤ rs.length ∧ f = rs.length - k ∧ vTo (rs.take k) (rs.drop k) = vTo [] rs ∧ MapF .string Value.string wr w.heap.size (seenN (rs.take k)) ∧ Below w.heap.size w wr

set_option maxRecDepth 100000 in
set_option maxHeartbeats 3200000 in
theorem valid_any (v : Value) (rs : List Qu) (m : Int) (w : World) (h : QuAt w v rs) (hm : w.cell? ⟨0, 0, none⟩ = some (.int .i64 m)) (hml : 0 < w.heap.size) :
    Calls Tryz.prog 15 #[v] w fun e w' => e = .returned (.int .i64 ((validR rs : Nat) : Int)) ∧ Below w.heap.size w w' := by
  have HMX : Hid (∀ W, Below w.heap.size w W → W.cell? ⟨0, 0, none⟩ = some (.int .i64 m)) := fun W hW => (hW.cell (p := ⟨0, 0, none⟩) hml).trans hm
  obtain ⟨ao, cap, rfl⟩ := SlAt.form h
  have H := Lib.hid h
  have hmm : ∀ W : World, (Instr.makeMap 49 none).run Tryz.prog W = .ok (.map (some W.heap.size)) (W.alloc (.map #[] 0)) := fun W => run_makeMap _ W
  clear h hm hml
  go_enter Tryz.func15, Tryz.ntmps15
  by_cases hl : 4096 < rs.length
  · have hli : (4096 : Int) < (rs.length : Int) := by omega
    have HV : Hid (validR rs = 15) := by unfold Hid validR; rw [if_pos hl]
    clear hmm
    as_aux_lemma =>
    go_wp2_with fail
    go_ret
    exact ⟨by rw [HV.out]; rfl, Below.refl _ _⟩
  · have hli : decide ((4096 : Int) < (rs.length : Int)) = false := decide_eq_false (by omega)
    have hln : decide (4096 < rs.length) = false := decide_eq_false hl
    have hl2 : rs.length ≤ 4096 := by omega
    have HV : Hid (validR rs = vTo [] rs) := by unfold Hid validR; rw [if_neg hl]
    clear hl
    go_wp2_with fail
    clear hmm hli hln
    go_loopg [14] rs.length (RVRel w rs)
    case atStart => exact ⟨0, rfl, Nat.zero_le _, rfl, rfl, (mapF_new rfl 0).congr fun a => rfl, (Below.refl _ w).alloc (Nat.le_refl _) _⟩
    case round =>
      obtain ⟨k, rfl, hk, rfl, hv, hmp, hbr⟩ := hrel
      have HVT := Lib.hid hv
      have HMP := Lib.hid hmp
      have HBR := Lib.hid hbr
      have hbs := hbr.size
      have hmb := hmp.lt
      clear hv hmp hbr
      by_cases hlt : k < rs.length
      · obtain ⟨b, off, rfl, hbl, c0, c1, c2⟩ := QuAt.at3 (SlAt.below H.out HBR.out) hlt
        have hii : (k : Int) < (rs.length : Int) := by omega
        have HVA := Lib.hid ((vTo_at hlt).symm.trans HVT.out)
        have HTK : Hid (rs.take (k + 1) = rs.take k ++ [rs[k]]) := by unfold Hid; rw [List.take_add_one, List.getElem?_eq_getElem hlt]; rfl
        generalize rs[k] = q at *
        obtain ⟨W2, hW2⟩ : ∃ W2, wr.alloc (.cells #[.string q.name, .int .i64 q.since, .int .i64 q.til] 41 (0, 0)) = W2 := ⟨_, rfl⟩
        have hb2 : Below wr.heap.size wr W2 := by rw [← hW2]; exact (Below.refl _ _).alloc (Nat.le_refl _) _
        have hg2 : W2.heap[wr.heap.size]? = some (.cells #[.string q.name, .int .i64 q.since, .int .i64 q.til] 41 (0, 0)) := by rw [← hW2]; exact hp_new rfl
        have HB2 := Lib.hid (HBR.out.trans (hb2.mono hbs))
        have PA := Lib.hid (parts_any q.name m W2 (HMX.out W2 HB2.out))
        have d0 : W2.cell? ⟨wr.heap.size, 0, none⟩ = some (.string q.name) := cell_of_blk hg2 0
        have HMP2 := Lib.hid (HMP.out.below hb2)
        have HG2 := Lib.hid hg2
        clear hb2 hg2
        go_wp2_with fail
        refine PA.out.mono ?_
        rintro e w3 ⟨pv, pss, rfl, hb, _, _⟩
        have HB3 := Lib.hid (HB2.out.trans (hb.mono HB2.out.size))
        have hg3 := (hb.block _ (Array.getElem?_eq_some_iff.1 HG2.out).1).trans HG2.out
        have HMP3 := Lib.hid (HMP2.out.below hb)
        have e0 : w3.cell? ⟨wr.heap.size, 0, none⟩ = some (.string q.name) := cell_of_blk hg3 0
        have e1 : w3.cell? ⟨wr.heap.size, 1, none⟩ = some (.int .i64 q.since) := cell_of_blk hg3 1
        have e2 : w3.cell? ⟨wr.heap.size, 2, none⟩ = some (.int .i64 q.til) := cell_of_blk hg3 2
        clear hb hg3 PA d0 hW2 HMP HMP2 c0 c1 c2
        generalize hpf : partsF q.name.data.toList = pf at *
        by_cases hbd : badR q
        · have HR : Hid (vTo [] rs = 1) := by unfold Hid; rw [← HVA.out, if_pos hbd]
          have HBD := Lib.hid hbd
          clear HVA HVT HTK
          by_cases h0 : pf = 0
          · have t0 : (((pf : Nat) : Int) != 0) = false := by rw [h0]; rfl
            by_cases h1 : q.since < 1
            · clear h0 hbd
              as_aux_lemma =>
              go_wp2_with fail
              go_ret
              exact ⟨by rw [HV.out, HR.out]; rfl, HB3.out⟩
            · have h3 : 3 < q.since := by
                rcases HBD.out with h | h | h
                · exact absurd (hpf.trans h0) h
                · exact absurd h h1
                · exact h
              have t1 : decide (q.since < 1) = false := decide_eq_false h1
              clear h0 hbd h1
              as_aux_lemma =>
              go_wp2_with fail
              go_ret
              exact ⟨by rw [HV.out, HR.out]; rfl, HB3.out⟩
          · have t0 : (((pf : Nat) : Int) != 0) = true := by rw [bne_iff_ne]; omega
            clear h0 hbd
            as_aux_lemma =>
            go_wp2_with fail
            go_ret
            exact ⟨by rw [HV.out, HR.out]; rfl, HB3.out⟩
        · have hnb : pf = 0 ∧ ¬ q.since < 1 ∧ ¬ 3 < q.since := by
            unfold badR at hbd
            rw [hpf] at hbd
            exact ⟨Classical.byContradiction fun h => hbd (.inl h), fun h => hbd (.inr (.inl h)), fun h => hbd (.inr (.inr h))⟩
          have t0 : (((pf : Nat) : Int) != 0) = false := by rw [hnb.1]; rfl
          have t1 : decide (q.since < 1) = false := decide_eq_false hnb.2.1
          have t2 : decide (3 < q.since) = false := decide_eq_false hnb.2.2
          rw [if_neg hbd] at HVA
          by_cases hrg : rangeR q
          · have HR : Hid (vTo [] rs = 2) := by unfold Hid; rw [← HVA.out, if_pos hrg]
            have HRG := Lib.hid hrg
            clear HVA HVT HTK hbd hnb hrg hpf
            by_cases h4 : q.til < 0
            · as_aux_lemma =>
              go_wp2_with fail
              go_ret
              exact ⟨by rw [HV.out, HR.out]; rfl, HB3.out⟩
            · have h5 : 1125899906842624 < q.til := HRG.out.resolve_left h4
              have t4 : decide (q.til < 0) = false := decide_eq_false h4
              clear h4
              as_aux_lemma =>
              go_wp2_with fail
              go_ret
              exact ⟨by rw [HV.out, HR.out]; rfl, HB3.out⟩
          · have hnr : ¬ q.til < 0 ∧ ¬ 1125899906842624 < q.til := ⟨fun h => hrg (.inl h), fun h => hrg (.inr h)⟩
            have t4 : decide (q.til < 0) = false := decide_eq_false hnr.1
            have t5 : decide (1125899906842624 < q.til) = false := decide_eq_false hnr.2
            rw [if_neg hrg] at HVA
            have LK := MapF.lookup (P := Tryz.prog) HMP3.out Tryz.underlying49 Tryz.underlying9 (z := .bool false) (by kernel_rfl) (a := q.name) trivial false
            by_cases hin : q.name.data.toList ∈ (rs.take k).map (·.name.data.toList)
            · have e : seenN (rs.take k) q.name = some (.bool true) := by unfold seenN; rw [if_pos hin]
              rw [e] at LK
              simp only [Option.getD_some, if_false, Bool.false_eq_true] at LK
              have HR : Hid (vTo [] rs = 7) := by unfold Hid; rw [← HVA.out, if_pos hin]
              clear HVA HVT HTK hbd hnb hrg hnr hpf hin e
              as_aux_lemma =>
              go_wp2_with fail
              go_ret
              exact ⟨by rw [HV.out, HR.out]; rfl, HB3.out⟩
            · have e : seenN (rs.take k) q.name = none := by unfold seenN; rw [if_neg hin]
              rw [e] at LK
              simp only [Option.getD_none, if_false, Bool.false_eq_true] at LK
              rw [if_neg hin] at HVA
              obtain ⟨o5, W5, hup, hw5, hm5⟩ := MapF.update (P := Tryz.prog) HMP3.out Tryz.underlying49 Tryz.underlying9 (a := q.name) trivial (fun b hb => by injection hb) (.bool true) (f' := seenN (rs.take (k + 1)))
                (by unfold seenN; rw [HTK.out, List.map_append]; simp) (fun b hb => by
                  unfold seenN
                  have hne : b.data.toList ≠ q.name.data.toList := fun h => hb (data_injR h)
                  rw [HTK.out, List.map_append]
                  simp [hne])
              have HM5 := Lib.hid hm5
              have HB5 := Lib.hid (HB3.out.trans (hw5.below (Nat.le_refl _)))
              clear HVT hbd hnb hrg hnr hpf hin e hw5 hm5 HMP3
              as_aux_lemma =>
              go_wp2_with fail
              go_roundg (rs.length - (k + 1))
              case measure => omega
              case rel => exact ⟨k + 1, by go_num, by omega, rfl, HVA.out, HM5.out, HB5.out⟩
      · have he : k = rs.length := by omega
        subst he
        have HR : Hid (vTo [] rs = 0) := by unfold Hid; rw [← HVT.out, List.drop_length]; rfl
        as_aux_lemma =>
        go_wp2_with fail
        go_ret
        exact ⟨by rw [HV.out, HR.out]; rfl, HBR.out⟩
end Go.Proofs.YtngbjnjkcniabaaGreatDoor
