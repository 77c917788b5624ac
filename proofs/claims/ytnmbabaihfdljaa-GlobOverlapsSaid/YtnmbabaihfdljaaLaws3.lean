/- The walk over the law Prefixes. -/
import Derived.Test.YtnmbabaihfdljaaLaws2
import Derived.Test.YtnmbabaihfdljaaPlain3
namespace Go.Proofs.Ytnmbabaihfdljaa
open Go.RowKit
open Bs

theorem take_extract {s q : ByteArray} (h : s.data.toList.take q.data.toList.length = q.data.toList) : s.extract 0 q.size = q := by
  rw [Lib.extract_eq, List.drop_zero, Nat.sub_zero, Lib.size_eq, h]

theorem bne_str {s q : ByteArray} (h : s = q) : (!s.toList == q.toList) = false := by
  subst h; simp

set_option maxRecDepth 100000 in
set_option maxHeartbeats 1600000 in
theorem prefixes_law (a0 a1 : ByteArray) (w0 : a0.size ≤ maxLen) (_w1 : a1.size ≤ maxLen) (w : World) : Calls Try.prog 6 #[.string a0, .string a1] w (LawPost w) := by
  go_enter Try.func6, Try.ntmps6
  by_cases hl : 300 < a0.size
  · go_wp2_with fail
    refine (lives_any w).mono ?_
    rintro e w1 ⟨rfl, hb⟩
    have HB := Lib.hid hb
    clear hb
    go_wp2
    go_ret
    exact ⟨rfl, HB.out⟩
  · by_cases hl2 : 300 < a1.size
    · go_wp2_with fail
      refine (lives_any w).mono ?_
      rintro e w1 ⟨rfl, hb⟩
      have HB := Lib.hid hb
      clear hb
      go_wp2
      go_ret
      exact ⟨rfl, HB.out⟩
    · go_wp2_with fail
      refine (literal_walk a0 w0 w).mono ?_
      rintro e w1 ⟨q, rfl, hq, hb⟩
      have HQ := Lib.hid hq
      have HB := Lib.hid hb
      clear hb hq
      go_wp2_with fail
      refine (rliteral_walk a0 w0 w1).mono ?_
      rintro e w2 ⟨q2, rfl, hq2, hb⟩
      rw [← literal_same] at hq2 ⊢
      obtain rfl : q2 = q := by rw [← Lib.mk_data q2, hq2, ← HQ.out, Lib.mk_data]
      have HB := Lib.hid (HB.out.trans (hb.mono HB.out.size))
      clear hb hq2
      have hqm : q2.size ≤ 4097 := by
        have h := literalF_len a0.data.toList
        rw [← HQ.out, ← Lib.size_eq] at h
        exact h
      have hqm2 : q2.size ≤ maxLen := by unfold maxLen; omega
      go_wp2_with fail
      refine (gmatch_any a0 a1 w0 (by omega) w2).mono ?_
      rintro e w3 ⟨rfl, hb⟩
      have HB := Lib.hid (HB.out.trans (hb.mono HB.out.size))
      clear hb
      have HW := Lib.hid (gmatch_whole (p := a0.data.toList))
      have HP := Lib.hid (gmatch_lit (p := a0.data.toList) (s := a1.data.toList))
      generalize (literalF a0.data.toList).2 = b at *
      cases hm : gmatchF a0.data.toList a1.data.toList with
      | true =>
        obtain ⟨hp1, hp2⟩ := HP.out hm
        rw [← HQ.out] at hp1
        have hlen : ¬ a1.size < q2.size := by
          have := congrArg List.length hp1
          rw [List.length_take, ← Lib.size_eq, ← Lib.size_eq] at this
          omega
        have hx := take_extract hp1
        have hx1 := bne_str hx
        clear HP hm hp1 hx
        cases b with
        | true =>
          have hs : a1 = q2 := by rw [← Lib.mk_data a1, hp2 rfl, ← HQ.out, Lib.mk_data]
          have hs1 := bne_str hs
          have hm2 : gmatchF a0.data.toList q2.data.toList = true := by rw [HQ.out]; exact HW.out rfl
          have HM2 := Lib.hid hm2
          clear hs hp2 hm2
          go_wp2_with fail
          refine (gmatch_any a0 q2 w0 (by omega) w3).mono ?_
          rintro e w4 ⟨rfl, hb⟩
          rw [HM2.out]
          have HB := Lib.hid (HB.out.trans (hb.mono HB.out.size))
          clear hb
          go_wp2_with fail
          refine (lives_any w4).mono ?_
          rintro e w5 ⟨rfl, hb⟩
          have HB := Lib.hid (HB.out.trans (hb.mono HB.out.size))
          clear hb
          go_wp2
          go_ret
          exact ⟨rfl, HB.out⟩
        | false =>
          clear hp2
          go_wp2_with fail
          refine (lives_any w3).mono ?_
          rintro e w5 ⟨rfl, hb⟩
          have HB := Lib.hid (HB.out.trans (hb.mono HB.out.size))
          clear hb
          go_wp2
          go_ret
          exact ⟨rfl, HB.out⟩
      | false =>
        clear HP hm
        cases b with
        | true =>
          have hm2 : gmatchF a0.data.toList q2.data.toList = true := by rw [HQ.out]; exact HW.out rfl
          have HM2 := Lib.hid hm2
          clear hm2
          go_wp2_with fail
          refine (gmatch_any a0 q2 w0 (by omega) w3).mono ?_
          rintro e w4 ⟨rfl, hb⟩
          rw [HM2.out]
          have HB := Lib.hid (HB.out.trans (hb.mono HB.out.size))
          clear hb
          go_wp2_with fail
          refine (lives_any w4).mono ?_
          rintro e w5 ⟨rfl, hb⟩
          have HB := Lib.hid (HB.out.trans (hb.mono HB.out.size))
          clear hb
          go_wp2
          go_ret
          exact ⟨rfl, HB.out⟩
        | false =>
          go_wp2_with fail
          refine (lives_any w3).mono ?_
          rintro e w5 ⟨rfl, hb⟩
          have HB := Lib.hid (HB.out.trans (hb.mono HB.out.size))
          clear hb
          go_wp2
          go_ret
          exact ⟨rfl, HB.out⟩
end Go.Proofs.Ytnmbabaihfdljaa
