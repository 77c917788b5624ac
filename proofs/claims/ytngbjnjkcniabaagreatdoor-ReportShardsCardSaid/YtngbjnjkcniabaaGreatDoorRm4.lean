/- The walk over the reference's Merge. -/
import Derived.Test.YtngbjnjkcniabaaGreatDoorRm1
namespace Go.Proofs.YtngbjnjkcniabaaGreatDoor
open Go.RowKit Go.Deep

/-- the error's number ahead of the names -/
def preE (a b : List Qu) : Nat := if validR a ≠ 0 then validR a else if validR b ≠ 0 then validR b else if 4096 < a.length + b.length then 15 else 0
theorem mergeE_pre (a b : List Qu) : mergeE a b = if preE a b ≠ 0 then preE a b else if shares a b then 7 else 0 := by
  unfold mergeE preE
  by_cases h1 : validR a = 0
  · by_cases h2 : validR b = 0
    · by_cases h3 : 4096 < a.length + b.length
      · simp [h1, h2, h3]
      · simp [h1, h2, h3]
    · simp [h1, h2]
  · simp [h1]
theorem shares_iff (a b : List Qu) : shares a b = true ↔ ∃ j, ∃ hj : j < a.length, nmQ a[j] ∈ b.map nmQ := by
  unfold shares
  rw [List.any_eq_true]
  constructor
  · rintro ⟨q, hq, h⟩
    obtain ⟨x, hx, e⟩ := List.mem_map.1 (of_decide_eq_true h)
    obtain ⟨j, hj, rfl⟩ := List.getElem_of_mem hx
    exact ⟨j, hj, List.mem_map.2 ⟨q, hq, e.symm⟩⟩
  · rintro ⟨j, hj, h⟩
    obtain ⟨q, hq, e⟩ := List.mem_map.1 h
    exact ⟨q, hq, decide_eq_true (List.mem_map.2 ⟨a[j], List.getElem_mem hj, e.symm⟩)⟩
def foldQ (a b : List Qu) (i j : Nat) : List Qu := (b.take j).foldl putQ ((a.take i).foldl putQ [])
theorem foldQ_len (a b : List Qu) (i j : Nat) : (foldQ a b i j).length ≤ i + j := by
  unfold foldQ
  rw [(fold_perm _ _).length_eq, List.length_append, (fold_perm _ _).length_eq, List.length_append, List.length_take, List.length_take, List.length_nil]
  omega
theorem foldQ_mem {a b : List Qu} {i j : Nat} {q : Qu} (h : q ∈ foldQ a b i j) : q ∈ a ∨ q ∈ b := by
  unfold foldQ at h
  rcases List.mem_append.1 ((fold_perm _ _).mem_iff.1 h) with h | h
  · rcases List.mem_append.1 ((fold_perm _ _).mem_iff.1 h) with h | h
    · cases h
    · exact .inl (List.mem_of_mem_take h)
  · exact .inr (List.mem_of_mem_take h)
theorem foldQ_a {a b : List Qu} {i : Nat} (hi : i < a.length) : foldQ a b (i + 1) 0 = putQ (foldQ a b i 0) a[i] := by
  unfold foldQ
  rw [List.take_add_one, List.getElem?_eq_getElem hi, List.foldl_append]
  rfl
theorem foldQ_b {a b : List Qu} {i j : Nat} (hj : j < b.length) : foldQ a b i (j + 1) = putQ (foldQ a b i j) b[j] := by
  unfold foldQ
  rw [List.take_add_one, List.getElem?_eq_getElem hj, List.foldl_append]
  rfl
theorem foldQ_all (a b : List Qu) : foldQ a b a.length b.length = sortQ (a ++ b) := by
  unfold foldQ sortQ
  rw [List.take_length, List.take_length, List.foldl_append]

def RmPost (a b : List Qu) (w : World) (e : Ending) (w' : World) : Prop := ∃ v, e = .returned (.tuple #[v, .int .i64 ((mergeE a b : Nat) : Int)]) ∧ QuAt w' v (mergeF a b) ∧ SlC v ∧ Below w.heap.size w w'
theorem rm_fail {a b : List Qu} {n : Nat} {w w' : World} (h : mergeE a b = n) (hn : n ≠ 0) (hb : Below w.heap.size w w') {v : Value} (hv : v = .int .i64 (n : Nat)) : RmPost a b w (.returned (.tuple #[.slice none 0 0, v])) w' :=
  ⟨.slice none 0 0, by rw [h, hv], by unfold mergeF; rw [if_neg (by omega)]; exact .inl ⟨_, _, rfl, rfl⟩, ⟨_, _, _, rfl, Nat.le_refl _⟩, hb⟩
def Rm1Rel (w1 : World) (a b : List Qu) (f : Nat) (t6 t7 t8 : Value) (wr : World) : Prop :=
  ∃ k er : Nat, t6 = .int .i64 (er : Nat) ∧ t8 = .int .i64 (k : Nat) ∧ k ≤ a.length ∧ f = a.length - k ∧ Below w1.heap.size w1 wr ∧ ((er ≠ 0 ∧ mergeE a b = er) ∨ (er = 0 ∧ preE a b = 0 ∧ (∀ j (_ : j < k) (hj : j < a.length), nmQ a[j] ∉ b.map nmQ) ∧ TrRow wr w1.heap.size t7 (foldQ a b k 0)))
def Rm2Rel (w1 : World) (a b : List Qu) (f : Nat) (t7 t9 : Value) (wr : World) : Prop :=
  ∃ k : Nat, t9 = .int .i64 (k : Nat) ∧ k ≤ b.length ∧ f = b.length - k ∧ Below w1.heap.size w1 wr ∧ TrRow wr w1.heap.size t7 (foldQ a b a.length k)

set_option maxRecDepth 100000 in
set_option maxHeartbeats 6400000 in
theorem rmerge_any (va vb : Value) (a b : List Qu) (ha : a.length ≤ 10000) (hb : b.length ≤ 10000) (hsa : ∀ q ∈ a, q.name.size ≤ 9223372036854775807) (hsb : ∀ q ∈ b, q.name.size ≤ 9223372036854775807) (w : World) (hA : QuAt w va a) (hB : QuAt w vb b) (hCA : SlC va) (hCB : SlC vb) :
    Calls Tryz.prog 26 #[va, vb] w (RmPost a b w) := by
  have HA := Lib.hid hA
  have HB := Lib.hid hB
  have HCB := Lib.hid hCB
  have HSM : Hid (∀ i j, ∀ q ∈ foldQ a b i j, q.name.size ≤ 9223372036854775807) := fun i j q hq => (foldQ_mem hq).elim (hsa q) (hsb q)
  have HSA := Lib.hid hsa
  have HSB := Lib.hid hsb
  have HP := Lib.hid (mergeE_pre a b)
  have HSH := Lib.hid (shares_iff a b)
  have VA := Lib.hid (rvalid_any va a w hA hCA)
  obtain ⟨ao, acap, rfl⟩ := SlAt.form hA
  obtain ⟨bo, bcap, rfl⟩ := SlAt.form hB
  clear hA hB hCA hCB hsa hsb
  go_enter Tryz.func26, Tryz.ntmps26
  go_upto_region 1 with fail
  go_wp2_with fail
  refine VA.out.mono ?_
  rintro e w2 ⟨rfl, hb2⟩
  have HB2 := Lib.hid hb2
  clear hb2 VA
  by_cases h1 : validR a = 0
  · have VB := Lib.hid (rvalid_any (.slice bo b.length bcap) b w2 (SlAt.below HB.out HB2.out) HCB.out)
    rw [h1]
    go_wp2_with fail
    refine VB.out.mono ?_
    rintro e w3 ⟨rfl, hb3⟩
    have HB3 := Lib.hid (HB2.out.trans (hb3.mono HB2.out.size))
    clear hb3 VB
    by_cases h2 : validR b = 0
    · by_cases h3 : 4096 < a.length + b.length
      · have HPE : Hid (preE a b = 15) := by unfold Hid preE; rw [if_neg (by omega), if_neg (by omega), if_pos h3]
        have HFE : Hid (mergeE a b = 15) := by unfold Hid; rw [HP.out, HPE.out]; rfl
        have HNE : Hid ((15 : Nat) ≠ 0) := by unfold Hid; decide
        have h3i : (4096 : Int) < (a.length : Int) + (b.length : Int) := by omega
        rw [h2]
        clear h1 h2 h3
        go_wp2_with fail
        go_loopg [6, 7, 8] 0 (fun (_ : Nat) (t6 : Value) (_ : Value) (t8 : Value) (wr : World) => t6 = .int .i64 ((15 : Nat) : Int) ∧ t8 = .int .i64 0 ∧ Below w.heap.size w wr)
        case atStart => exact ⟨rfl, rfl, HB3.out⟩
        case round =>
          obtain ⟨rfl, rfl, hbl⟩ := hrel
          have HBL := Lib.hid hbl
          clear hbl
          by_cases hal : 0 < a.length
          · have hai : (0 : Int) < (a.length : Int) := by omega
            clear hal
            as_aux_lemma =>
            go_wp2_with fail
            go_ret2
            exact rm_fail HFE.out HNE.out HBL.out rfl
          · have hai : ¬ (0 : Int) < (a.length : Int) := by omega
            clear hal
            as_aux_lemma =>
            go_wp2_with fail
            go_ret2
            exact rm_fail HFE.out HNE.out HBL.out rfl
      · have HPE : Hid (preE a b = 0) := by unfold Hid preE; rw [if_neg (by omega), if_neg (by omega), if_neg h3]
        have h3i : ¬ (4096 : Int) < (a.length : Int) + (b.length : Int) := by omega
        have HFE : Hid (mergeE a b = if shares a b then 7 else 0) := by unfold Hid; rw [HP.out, HPE.out]; rfl
        rw [h2]
        clear h1 h2 h3
        go_wp2_with fail
        go_loopg [6, 7, 8] a.length (Rm1Rel w a b)
        case atStart => exact ⟨0, 0, rfl, rfl, Nat.zero_le _, rfl, HB3.out, .inr ⟨rfl, HPE.out, fun j h => absurd h (by omega), World.ownsRow_nil _ _ _ _⟩⟩
        case round =>
          obtain ⟨k, er, rfl, rfl, hk, rfl, hbl, hor⟩ := hrel
          have HBL := Lib.hid hbl
          have hbs := hbl.size
          rcases hor with ⟨hne, hme⟩ | ⟨rfl, hpre, hno, hrow⟩
          · have HNE := Lib.hid hne
            have HFR := Lib.hid hme
            have t0 : (((er : Nat) : Int) == 0) = false := by rw [beq_eq_false_iff_ne]; omega
            have t1 : (((er : Nat) : Int) != 0) = true := by rw [bne_iff_ne]; omega
            clear hne hme hbl
            by_cases hal : k < a.length
            · have hai : (k : Int) < (a.length : Int) := by omega
              clear hal
              as_aux_lemma =>
              go_wp2_with fail
              go_ret2
              exact rm_fail HFR.out HNE.out HBL.out rfl
            · have hai : ¬ (k : Int) < (a.length : Int) := by omega
              clear hal
              as_aux_lemma =>
              go_wp2_with fail
              go_ret2
              exact rm_fail HFR.out HNE.out HBL.out rfl
          · have HNO := Lib.hid hno
            have HR := Lib.hid hrow
            have HAR := Lib.hid (SlAt.below HA.out hbl)
            have HBR := Lib.hid (SlAt.below HB.out hbl)
            have hfl := foldQ_len a b k 0
            have HSM1 := Lib.hid (HSM.out k 0)
            clear hno hrow hbl hpre
            by_cases hal : k < a.length
            · have hai : (k : Int) < (a.length : Int) := by omega
              obtain ⟨rb, roff, rfl, hrb, c0, c1, c2⟩ := QuAt.at3 HAR.out hal
              have HQ := Lib.hid (has_any (.slice bo b.length bcap) b a[k].name (by omega) wr HBR.out)
              have HFA := Lib.hid (foldQ_a (b := b) hal)
              have HYS : Hid (nmQ a[k] ∈ b.map nmQ → mergeE a b = 7) := fun h => by rw [HFE.out, if_pos (HSH.out.2 ⟨k, hal, h⟩)]
              have HNS : Hid (nmQ a[k] ∉ b.map nmQ → ∀ j (_ : j < k + 1) (hj : j < a.length), nmQ a[j] ∉ b.map nmQ) := fun h j hj hl => by
                by_cases e : j = k
                · subst e; exact h
                · exact HNO.out j (by omega) hl
              have hqs := HSA.out _ (List.getElem_mem hal)
              have PT := Lib.hid (put_any w.heap.size _ (foldQ a b k 0) a[k] (by omega) HSM1.out hqs wr HR.out)
              obtain ⟨fo, fc, hff⟩ := ownsRow_form HR.out
              generalize a[k] = q at *
              subst hff
              generalize foldQ a b k 0 = L at *
              change Hid (Calls _ _ _ _ fun e w' => e = .returned (.bool (decide (nmQ q ∈ b.map nmQ))) ∧ w' = wr) at HQ
              by_cases hin : nmQ q ∈ b.map nmQ
              · have HM7 := Lib.hid (HYS.out hin)
                rw [decide_eq_true hin] at HQ
                clear hin HYS HNS
                as_aux_lemma =>
                go_wp2_with fail
                refine HQ.out.mono ?_
                rintro e w4 ⟨rfl, rfl⟩
                clear HQ
                go_wp2_with fail
                refine PT.out.mono ?_
                rintro e w5 ⟨v5, rfl, hr5, hb5⟩
                have HB5 := Lib.hid (HBL.out.trans (hb5.mono hbs))
                clear hr5 hb5 PT
                go_wp2_with fail
                go_roundg (a.length - (k + 1))
                case measure => omega
                case rel => exact ⟨k + 1, 7, rfl, by go_num, by omega, rfl, HB5.out, .inl ⟨by decide, HM7.out⟩⟩
              · have HNN := Lib.hid (HNS.out hin)
                rw [decide_eq_false hin] at HQ
                clear hin HYS HNS
                as_aux_lemma =>
                go_wp2_with fail
                refine HQ.out.mono ?_
                rintro e w4 ⟨rfl, rfl⟩
                clear HQ
                go_wp2_with fail
                refine PT.out.mono ?_
                rintro e w5 ⟨v5, rfl, hr5, hb5⟩
                have HB5 := Lib.hid (HBL.out.trans (hb5.mono hbs))
                have HR5 := Lib.hid (ownsRow_base (base' := w.heap.size) hr5 hbs)
                clear hr5 hb5 PT
                go_wp2_with fail
                go_roundg (a.length - (k + 1))
                case measure => omega
                case rel => exact ⟨k + 1, 0, rfl, by go_num, by omega, rfl, HB5.out, .inr ⟨rfl, HPE.out, HNN.out, by rw [HFA.out]; exact HR5.out⟩⟩
            · have hai : ¬ (k : Int) < (a.length : Int) := by omega
              have hke : k = a.length := by omega
              subst hke
              have HM0 : Hid (mergeE a b = 0) := by
                unfold Hid
                rw [HFE.out, if_neg]
                intro h
                obtain ⟨j, hj, hm⟩ := HSH.out.1 h
                exact HNO.out j hj hj hm
              have HMF : Hid (mergeF a b = sortQ (a ++ b)) := by unfold Hid mergeF; rw [if_pos HM0.out]
              clear HNO hal
              go_wp2_with fail
              go_loopg [7, 9] b.length (Rm2Rel w a b)
              case atStart => exact ⟨0, rfl, Nat.zero_le _, rfl, HBL.out, HR.out⟩
              case round =>
                obtain ⟨k, rfl, hk2, rfl, hbl2, hrow2⟩ := hrel
                generalize wr = wq at *
                have HBQ := Lib.hid hbl2
                have HRQ := Lib.hid hrow2
                have HBR2 := Lib.hid (SlAt.below HB.out hbl2)
                have hfl2 := foldQ_len a b a.length k
                have HSM2 := Lib.hid (HSM.out a.length k)
                have hbs2 := hbl2.size
                clear hbl2 hrow2
                by_cases hbl : k < b.length
                · have hbi : (k : Int) < (b.length : Int) := by omega
                  obtain ⟨rb, roff, rfl, hrb, c0, c1, c2⟩ := QuAt.at3 HBR2.out hbl
                  have HFB := Lib.hid (foldQ_b (a := a) (i := a.length) hbl)
                  have hqs := HSB.out _ (List.getElem_mem hbl)
                  have PT := Lib.hid (put_any w.heap.size _ (foldQ a b a.length k) b[k] (by omega) HSM2.out hqs wq HRQ.out)
                  obtain ⟨fo, fc, hff⟩ := ownsRow_form HRQ.out
                  generalize b[k] = q at *
                  subst hff
                  generalize foldQ a b a.length k = L at *
                  as_aux_lemma =>
                  go_wp2_with fail
                  refine PT.out.mono ?_
                  rintro e w5 ⟨v5, rfl, hr5, hb5⟩
                  have HB5 := Lib.hid (HBQ.out.trans (hb5.mono hbs2))
                  have HR5 := Lib.hid (ownsRow_base (base' := w.heap.size) hr5 hbs2)
                  clear hr5 hb5 PT
                  go_wp2_with fail
                  go_roundg (b.length - (k + 1))
                  case measure => omega
                  case rel => exact ⟨k + 1, by go_num, by omega, rfl, HB5.out, by rw [HFB.out]; exact HR5.out⟩
                · have hbi : ¬ (k : Int) < (b.length : Int) := by omega
                  have hkb : k = b.length := by omega
                  subst hkb
                  have HSC := Lib.hid (SlC.of_row HRQ.out)
                  have HFL := Lib.hid (foldQ_all a b)
                  as_aux_lemma =>
                  go_wp2_with fail
                  go_ret2
                  exact ⟨_, by rw [HM0.out]; rfl, by rw [HMF.out, ← HFL.out]; exact TrRow.at HRQ.out, HSC.out, HBQ.out⟩
    · have HPE : Hid (preE a b = validR b) := by unfold Hid preE; rw [if_neg (by omega), if_pos h2]
      have HFE : Hid (mergeE a b = validR b) := by unfold Hid; rw [HP.out, HPE.out, if_pos h2]
      have HNE : Hid (validR b ≠ 0) := h2
      have t0 : (((validR b : Nat) : Int) == 0) = false := by rw [beq_eq_false_iff_ne]; omega
      have t1 : (((validR b : Nat) : Int) != 0) = true := by rw [bne_iff_ne]; omega
      clear h1 h2
      generalize validR b = er at *
      go_wp2_with fail
      go_loopg [6, 7, 8] 0 (fun (_ : Nat) (t6 : Value) (_ : Value) (t8 : Value) (wr : World) => t6 = .int .i64 ((er : Nat) : Int) ∧ t8 = .int .i64 0 ∧ Below w.heap.size w wr)
      case atStart => exact ⟨rfl, rfl, HB3.out⟩
      case round =>
        obtain ⟨rfl, rfl, hbl⟩ := hrel
        have HBL := Lib.hid hbl
        clear hbl
        by_cases hal : 0 < a.length
        · have hai : (0 : Int) < (a.length : Int) := by omega
          clear hal
          as_aux_lemma =>
          go_wp2_with fail
          go_ret2
          exact rm_fail HFE.out HNE.out HBL.out rfl
        · have hai : ¬ (0 : Int) < (a.length : Int) := by omega
          clear hal
          as_aux_lemma =>
          go_wp2_with fail
          go_ret2
          exact rm_fail HFE.out HNE.out HBL.out rfl
  · have HPE : Hid (preE a b = validR a) := by unfold Hid preE; rw [if_pos h1]
    have HFE : Hid (mergeE a b = validR a) := by unfold Hid; rw [HP.out, HPE.out, if_pos h1]
    have HNE : Hid (validR a ≠ 0) := h1
    have t0 : (((validR a : Nat) : Int) == 0) = false := by rw [beq_eq_false_iff_ne]; omega
    have t1 : (((validR a : Nat) : Int) != 0) = true := by rw [bne_iff_ne]; omega
    clear h1
    generalize validR a = er at *
    go_wp2_with fail
    go_loopg [6, 7, 8] 0 (fun (_ : Nat) (t6 : Value) (_ : Value) (t8 : Value) (wr : World) => t6 = .int .i64 ((er : Nat) : Int) ∧ t8 = .int .i64 0 ∧ Below w.heap.size w wr)
    case atStart => exact ⟨rfl, rfl, HB2.out⟩
    case round =>
      obtain ⟨rfl, rfl, hbl⟩ := hrel
      have HBL := Lib.hid hbl
      clear hbl
      by_cases hal : 0 < a.length
      · have hai : (0 : Int) < (a.length : Int) := by omega
        clear hal
        as_aux_lemma =>
        go_wp2_with fail
        go_ret2
        exact rm_fail HFE.out HNE.out HBL.out rfl
      · have hai : ¬ (0 : Int) < (a.length : Int) := by omega
        clear hal
        as_aux_lemma =>
        go_wp2_with fail
        go_ret2
        exact rm_fail HFE.out HNE.out HBL.out rfl
end Go.Proofs.YtngbjnjkcniabaaGreatDoor
