/- The walk over the law Escapes. -/
import Derived.Test.YtnmbabaihfdljaaLaws3
import Derived.Test.YtnmbabaihfdljaaPlain4
namespace Go.Proofs.Ytnmbabaihfdljaa
open Go.RowKit
open Bs

def EscRel (w : World) (s : ByteArray) (f : Nat) (t5 t6 : Value) (wr : World) : Prop :=
  ∃ (i : Nat) (q : ByteArray), t5 = .string q ∧ t6 = .int .i64 (i : Nat) ∧ i ≤ s.size ∧ f = s.size - i ∧ q.data.toList = esc (s.data.toList.take i) ∧ wr = w

theorem beq_str {s q : ByteArray} (h : s = q) : (s.toList == q.toList) = true := by
  subst h; simp

theorem beq_str_ne {s q : ByteArray} (h : ¬ s = q) : (s.toList == q.toList) = false := by
  rw [beq_eq_false_iff_ne]
  intro e
  apply h
  rw [Lib.toList_data, Lib.toList_data] at e
  rw [← Lib.mk_data s, e, Lib.mk_data]

theorem esc_step {s q : ByteArray} {i : Nat} (h : q.data.toList = esc (s.data.toList.take i)) (hi : i < s.size) :
    (q ++ (⟨#[92]⟩ : ByteArray) ++ s.extract i (i + 1)).data.toList = esc (s.data.toList.take (i + 1)) := by
  have hl : i < s.data.toList.length := by rw [← Lib.size_eq]; exact hi
  rw [ByteArray.data_append, ByteArray.data_append, Array.toList_append, Array.toList_append, Lib.extract_data, h, List.take_add_one]
  rw [List.getElem?_eq_getElem hl, Option.toList_some, esc_snoc, List.append_assoc]
  congr 1
  rw [show i + 1 - i = 1 by omega, List.drop_eq_getElem_cons hl]
  rfl

set_option maxRecDepth 100000 in
set_option maxHeartbeats 1600000 in
theorem escapes_law (a0 a1 : ByteArray) (_w0 : a0.size ≤ maxLen) (_w1 : a1.size ≤ maxLen) (w : World) : Calls Try.prog 7 #[.string a0, .string a1] w (LawPost w) := by
  go_enter Try.func7, Try.ntmps7
  by_cases hl : 1000 < a0.size
  · go_wp2_with fail
    refine (lives_any w).mono ?_
    rintro e w1 ⟨rfl, hb⟩
    have HB := Lib.hid hb
    clear hb
    go_wp2
    go_ret
    exact ⟨rfl, HB.out⟩
  · by_cases hl2 : 1000 < a1.size
    · go_wp2_with fail
      refine (lives_any w).mono ?_
      rintro e w1 ⟨rfl, hb⟩
      have HB := Lib.hid hb
      clear hb
      go_wp2
      go_ret
      exact ⟨rfl, HB.out⟩
    · go_wp2_with fail
      go_loopg [5, 6] a0.size (EscRel w a0)
      case atStart => exact ⟨0, ⟨#[]⟩, rfl, rfl, Nat.zero_le _, rfl, rfl, rfl⟩
      case round =>
        obtain ⟨i, q, rfl, rfl, hi, rfl, hq, rfl⟩ := hrel
        have HQ := Lib.hid hq
        have hqs : q.size = 2 * i := by rw [Lib.size_eq, hq, esc_len, List.length_take, ← Lib.size_eq]; omega
        have hqb : q.size ≤ 2000 := by omega
        have HQS := Lib.hid hqs
        clear hq hqs
        by_cases hlt : i < a0.size
        · go_wp2
          go_roundg (a0.size - (i + 1))
          case measure => omega
          case rel =>
            refine ⟨i + 1, _, rfl, by go_num, by omega, rfl, ?_, rfl⟩
            exact esc_step HQ.out hlt
        · have hqe : q.data.toList = esc a0.data.toList := by
            rw [HQ.out, List.take_of_length_le (by rw [← Lib.size_eq]; omega)]
          have hal : a0.data.toList.length ≤ 2048 := by rw [← Lib.size_eq]; omega
          have HAL := Lib.hid hal
          have HQE := Lib.hid hqe
          have hqm : q.size ≤ maxLen := by unfold maxLen; omega
          clear hqe HQ HQS hal
          go_wp2_with fail
          refine (literal_walk q hqm _).mono ?_
          rintro e w1 ⟨x, rfl, hx, hb⟩
          rw [HQE.out, literal_esc HAL.out] at hx ⊢
          obtain rfl : x = a0 := by rw [← Lib.mk_data x, hx, Lib.mk_data]
          have HB := Lib.hid hb
          clear hb hx
          go_wp2_with fail
          refine (valid_any q hqm _).mono ?_
          rintro e w2 ⟨rfl, hb⟩
          rw [HQE.out, valid_esc HAL.out]
          have HB := Lib.hid (HB.out.trans (hb.mono HB.out.size))
          clear hb
          go_wp2_with fail
          refine (gmatch_any q x hqm (by omega) _).mono ?_
          rintro e w3 ⟨rfl, hb⟩
          rw [HQE.out, match_esc HAL.out]
          have HB := Lib.hid (HB.out.trans (hb.mono HB.out.size))
          clear hb
          go_wp2_with fail
          refine (gmatch_any q a1 hqm (by omega) _).mono ?_
          rintro e w4 ⟨rfl, hb⟩
          rw [HQE.out]
          have HB := Lib.hid (HB.out.trans (hb.mono HB.out.size))
          clear hb
          by_cases he : a1 = x
          · subst he
            rw [match_esc HAL.out]
            go_wp2_with fail
            refine (lives_any w4).mono ?_
            rintro e w5 ⟨rfl, hb⟩
            have HB := Lib.hid (HB.out.trans (hb.mono HB.out.size))
            clear hb
            go_wp2
            go_ret
            exact ⟨rfl, HB.out⟩
          · rw [match_esc_ne HAL.out (fun e => he (by rw [← Lib.mk_data a1, e, Lib.mk_data]))]
            have ht := beq_str_ne (s := x) (q := a1) (fun e => he e.symm)
            go_wp2_with fail
            refine (lives_any w4).mono ?_
            rintro e w5 ⟨rfl, hb⟩
            have HB := Lib.hid (HB.out.trans (hb.mono HB.out.size))
            clear hb
            go_wp2
            go_ret
            exact ⟨rfl, HB.out⟩
end Go.Proofs.Ytnmbabaihfdljaa
