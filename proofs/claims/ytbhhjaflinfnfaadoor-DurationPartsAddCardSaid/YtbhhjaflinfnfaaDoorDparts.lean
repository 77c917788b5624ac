/- The walk over the law PartsAdd. -/
import Derived.Test.YtbhhjaflinfnfaaDoorDplain
import Derived.Test.YtbhhjaflinfnfaaDoorDlives
import Derived.BigQuiet
namespace Go.Proofs.YtbhhjaflinfnfaaDoor
open Go.RowKit

theorem u16_wf {n : Int} (w : (Lit.int .u16 n).wf = true) : 0 ≤ n ∧ n ≤ 65535 := by
  have : IntKind.u16.min ≤ n ∧ n ≤ IntKind.u16.max := by simpa [Lit.wf] using w
  simpa [IntKind.min, IntKind.max, IntKind.signed, IntKind.bits] using this

def partF (z : Int) (u : ByteArray) : List UInt8 := if z.toNat = 0 then [] else Lib.decDigits z.toNat ++ u.data.toList

theorem part_int (z : Int) (h0 : 0 ≤ z) (h1 : z ≤ 65535) (u : ByteArray) (hu : u.size ≤ 2) (w : World) : Calls Tryd.prog 18 #[.int .i64 z, .string u] w fun e w' => ∃ s : ByteArray, e = .returned (.string s) ∧ s.data.toList = partF z u ∧ s.size ≤ 18 ∧ Below w.heap.size w w' := by
  obtain ⟨n, rfl⟩ : ∃ n : Nat, z = (n : Int) := ⟨z.toNat, by omega⟩
  refine (part_any n (by omega) u hu w).mono ?_
  rintro e w' ⟨s, rfl, hs, hb⟩
  refine ⟨s, rfl, ?_, ?_, hb⟩
  · rw [hs]; unfold partF; rw [Lib.itoa_nonneg]; rfl
  · rw [Lib.size_eq, hs]
    rw [Lib.size_eq] at hu
    have := itoa_len n (by omega)
    split
    · simp
    · rw [List.length_append]; omega

def vsOf (d h m s ms : Int) (i : Nat) : Nat := if i = 0 then d.toNat else if i = 1 then h.toNat else if i = 2 then m.toNat else if i = 3 then s.toNat else ms.toNat

theorem parts_txt (d h m s ms : Int) : partF d ⟨#[100]⟩ ++ partF h ⟨#[104]⟩ ++ partF m ⟨#[109]⟩ ++ partF s ⟨#[115]⟩ ++ partF ms ⟨#[109, 115]⟩ = txt (vsOf d h m s ms) 5 0 := by
  simp only [txt, List.append_assoc, List.append_nil]
  rfl

theorem parts_tot {d h m s ms : Int} (h0 : 0 ≤ d) (h1 : 0 ≤ h) (h2 : 0 ≤ m) (h3 : 0 ≤ s) (h4 : 0 ≤ ms) : ((tot (vsOf d h m s ms) 5 0 : Nat) : Int) = ms + 1000 * (s + 60 * (m + 60 * (h + 24 * d))) := by
  have : tot (vsOf d h m s ms) 5 0 = d.toNat * 86400000 + (h.toNat * 3600000 + (m.toNat * 60000 + (s.toNat * 1000 + (ms.toNat * 1 + 0)))) := rfl
  rw [this]
  omega

set_option maxRecDepth 100000 in
set_option maxHeartbeats 3200000 in
theorem partsadd_int (d h m s ms : Int) (hd : 0 ≤ d ∧ d ≤ 65535) (hh : 0 ≤ h ∧ h ≤ 65535) (hm : 0 ≤ m ∧ m ≤ 65535) (hs : 0 ≤ s ∧ s ≤ 65535) (hms : 0 ≤ ms ∧ ms ≤ 65535) (w : World) (hu : UnitsAt w) (hp : Pow10At w) :
    Calls Tryd.prog 7 #[.agg #[.int .u16 d, .int .u16 h, .int .u16 m, .int .u16 s, .int .u16 ms]] w (LawPost w) := by
  obtain ⟨hd0, hd1⟩ := hd
  obtain ⟨hh0, hh1⟩ := hh
  obtain ⟨hm0, hm1⟩ := hm
  obtain ⟨hs0, hs1⟩ := hs
  obtain ⟨hms0, hms1⟩ := hms
  have LV : Hid (∀ W, Below w.heap.size w W → Calls Tryd.prog 8 #[] W fun e w' => e = .returned (.bool true) ∧ Below w.heap.size w w') := fun W hW => (lives_any W (UnitsAt.below hu hW) (Pow10At.below hp hW)).mono (by
    rintro e w' ⟨rfl, hb⟩
    exact ⟨rfl, hW.trans (hb.mono hW.size)⟩)
  have HU := Lib.hid hu
  clear hu hp
  have HB0 := Lib.hid ((Below.refl w.heap.size w).alloc (Nat.le_refl _) (.cells #[.int .u16 d, .int .u16 h, .int .u16 m, .int .u16 s, .int .u16 ms] 36))
  have HK0 : Hid ((w.alloc (.cells #[.int .u16 d, .int .u16 h, .int .u16 m, .int .u16 s, .int .u16 ms] 36)).heap[w.heap.size]? = some (.cells #[.int .u16 d, .int .u16 h, .int .u16 m, .int .u16 s, .int .u16 ms] 36)) := hp_new rfl
  have hk0 : (w.alloc (.cells #[.int .u16 d, .int .u16 h, .int .u16 m, .int .u16 s, .int .u16 ms] 36)).cell? ⟨w.heap.size, 0, none⟩ = some (.int .u16 d) := by rw [cell_of_blk HK0.out]; rfl
  have hk1 : (w.alloc (.cells #[.int .u16 d, .int .u16 h, .int .u16 m, .int .u16 s, .int .u16 ms] 36)).cell? ⟨w.heap.size, 1, none⟩ = some (.int .u16 h) := by rw [cell_of_blk HK0.out]; rfl
  have hk2 : (w.alloc (.cells #[.int .u16 d, .int .u16 h, .int .u16 m, .int .u16 s, .int .u16 ms] 36)).cell? ⟨w.heap.size, 2, none⟩ = some (.int .u16 m) := by rw [cell_of_blk HK0.out]; rfl
  have hk3 : (w.alloc (.cells #[.int .u16 d, .int .u16 h, .int .u16 m, .int .u16 s, .int .u16 ms] 36)).cell? ⟨w.heap.size, 3, none⟩ = some (.int .u16 s) := by rw [cell_of_blk HK0.out]; rfl
  have hk4 : (w.alloc (.cells #[.int .u16 d, .int .u16 h, .int .u16 m, .int .u16 s, .int .u16 ms] 36)).cell? ⟨w.heap.size, 4, none⟩ = some (.int .u16 ms) := by rw [cell_of_blk HK0.out]; rfl
  go_enter Tryd.func7, Tryd.ntmps7
  go_wp2_with fail
  generalize w.alloc (.cells #[.int .u16 d, .int .u16 h, .int .u16 m, .int .u16 s, .int .u16 ms] 36) = w0 at *
  go_quiet (fail)
  clear hk0 hk1 hk2 hk3 hk4 HK0
  have HBD : Hid (Below w.heap.size w (w0.drewN nq)) := HB0.out.trans ⟨rfl, rfl, rfl, Nat.le_refl _, fun _ _ => rfl⟩
  generalize w0.drewN nq = wd at *
  clear HB0
  by_cases b1 : 23 < h
  · go_wp2_with fail
    refine (LV.out _ HBD.out).mono ?_
    rintro e w9 ⟨rfl, hb⟩
    have HB := Lib.hid hb
    clear hb
    go_wp2_with fail
    go_ret
    exact ⟨rfl, HB.out⟩
  · have t1 : decide ((23 : Int) < h) = false := by simp; omega
    by_cases b2 : 59 < m
    · go_wp2_with fail
      refine (LV.out _ HBD.out).mono ?_
      rintro e w9 ⟨rfl, hb⟩
      have HB := Lib.hid hb
      clear hb
      go_wp2_with fail
      go_ret
      exact ⟨rfl, HB.out⟩
    · have t2 : decide ((59 : Int) < m) = false := by simp; omega
      by_cases b3 : 59 < s
      · go_wp2_with fail
        refine (LV.out _ HBD.out).mono ?_
        rintro e w9 ⟨rfl, hb⟩
        have HB := Lib.hid hb
        clear hb
        go_wp2_with fail
        go_ret
        exact ⟨rfl, HB.out⟩
      · have t3 : decide ((59 : Int) < s) = false := by simp; omega
        by_cases b4 : 999 < ms
        · go_wp2_with fail
          refine (LV.out _ HBD.out).mono ?_
          rintro e w9 ⟨rfl, hb⟩
          have HB := Lib.hid hb
          clear hb
          go_wp2_with fail
          go_ret
          exact ⟨rfl, HB.out⟩
        · have t4 : decide ((999 : Int) < ms) = false := by simp; omega
          have c1 : wrap64 d = d := wrap_in (by omega) (by omega)
          have c2 : wrap64 h = h := wrap_in (by omega) (by omega)
          have c3 : wrap64 m = m := wrap_in (by omega) (by omega)
          have c4 : wrap64 s = s := wrap_in (by omega) (by omega)
          have c5 : wrap64 ms = ms := wrap_in (by omega) (by omega)
          go_wp2_with fail
          refine (part_int d hd0 hd1 ⟨#[100]⟩ (by decide) _).mono ?_
          rintro e w1 ⟨x1, rfl, hx, z1, hb⟩
          have X1 := Lib.hid hx
          have HB1 := Lib.hid (HBD.out.trans (hb.mono HBD.out.size))
          clear hx hb
          go_wp2_with fail
          refine (part_int h hh0 hh1 ⟨#[104]⟩ (by decide) _).mono ?_
          rintro e w2 ⟨x2, rfl, hx, z2, hb⟩
          have X2 := Lib.hid hx
          have HB2 := Lib.hid (HB1.out.trans (hb.mono HB1.out.size))
          clear hx hb
          have q1 : ¬ 9223372036854775807 < x1.size + x2.size := by omega
          go_wp2_with fail
          refine (part_int m hm0 hm1 ⟨#[109]⟩ (by decide) _).mono ?_
          rintro e w3 ⟨x3, rfl, hx, z3, hb⟩
          have X3 := Lib.hid hx
          have HB3 := Lib.hid (HB2.out.trans (hb.mono HB2.out.size))
          clear hx hb
          have q2 : ¬ 9223372036854775807 < x1.size + x2.size + x3.size := by omega
          go_wp2_with fail
          refine (part_int s hs0 hs1 ⟨#[115]⟩ (by decide) _).mono ?_
          rintro e w4 ⟨x4, rfl, hx, z4, hb⟩
          have X4 := Lib.hid hx
          have HB4 := Lib.hid (HB3.out.trans (hb.mono HB3.out.size))
          clear hx hb
          have q3 : ¬ 9223372036854775807 < x1.size + x2.size + x3.size + x4.size := by omega
          go_wp2_with fail
          refine (part_int ms hms0 hms1 ⟨#[109, 115]⟩ (by decide) _).mono ?_
          rintro e w5 ⟨x5, rfl, hx, z5, hb⟩
          have X5 := Lib.hid hx
          have HB5 := Lib.hid (HB4.out.trans (hb.mono HB4.out.size))
          clear hx hb
          have q4 : ¬ 9223372036854775807 < x1.size + x2.size + x3.size + x4.size + x5.size := by omega
          go_upto_region 5 with fail
          have HX : Hid ((x1 ++ x2 ++ x3 ++ x4 ++ x5).data.toList = txt (vsOf d h m s ms) 5 0) := by
            unfold Hid
            rw [← parts_txt, ← X1.out, ← X2.out, ← X3.out, ← X4.out, ← X5.out, str_app, str_app, str_app, str_app]
          have hxz : (x1 ++ x2 ++ x3 ++ x4 ++ x5).size ≤ 1000 := by
            rw [size_app, size_app, size_app, size_app]; omega
          generalize x1 ++ x2 ++ x3 ++ x4 ++ x5 = tx at *
          clear q1 q2 q3 q4 X1 X2 X3 X4 X5 z1 z2 z3 z4 z5
          by_cases hem : tx.data.toList = []
          · obtain ⟨he, hz⟩ := str_nil hem
            clear hem
            go_wp2_with fail
            refine (LV.out _ HB5.out).mono ?_
            rintro e w9 ⟨rfl, hb⟩
            have HB := Lib.hid hb
            clear hb
            go_wp2_with fail
            go_ret
            exact ⟨rfl, HB.out⟩
          · have hre : tx.toList.isEmpty = false := by
              cases hl : tx.data.toList with
              | nil => exact absurd hl hem
              | cons c r => exact (str_cons hl).1
            have HTOT := Lib.hid (parts_tot (d := d) (h := h) (m := m) (s := s) (ms := ms) hd0 hh0 hm0 hs0 hms0)
            have HPA : Hid (parseF tx.data.toList = (tot (vsOf d h m s ms) 5 0, 0)) := by
              unfold Hid
              rw [HX.out]
              refine parse_txt _ ?_ (by rw [← HX.out]; exact hem) ?_
              · intro i hi
                have hi5 : i = 0 ∨ i = 1 ∨ i = 2 ∨ i = 3 ∨ i = 4 := by omega
                rcases hi5 with rfl | rfl | rfl | rfl | rfl
                · left; rfl
                · right; show h.toNat < 24; omega
                · right; show m.toNat < 60; omega
                · right; show s.toNat < 60; omega
                · right; show ms.toNat < 1000; omega
              · have := HTOT.out
                omega
            have HAS : Hid (asciiF tx.data.toList) := by
              intro j b hj
              rw [HX.out] at hj
              exact txt_ascii _ _ _ b (List.mem_of_getElem? hj)
            clear hem HX
            generalize tot (vsOf d h m s ms) 5 0 = T at *
            go_wp2_with fail
            refine (parse_any tx hxz HAS.out w5 (HU.out.below HB5.out)).mono ?_
            rintro e w6 ⟨he, hb⟩
            rw [HPA.out] at he
            subst he
            have HB6 := Lib.hid (HB5.out.trans (hb.mono HB5.out.size))
            clear hb
            have e1 : wrap64 (24 * d) = 24 * d := wrap_in (by omega) (by omega)
            have e2 : wrap64 (h + 24 * d) = h + 24 * d := wrap_in (by omega) (by omega)
            have e3 : wrap64 (60 * (h + 24 * d)) = 60 * (h + 24 * d) := wrap_in (by omega) (by omega)
            have e4 : wrap64 (m + 60 * (h + 24 * d)) = m + 60 * (h + 24 * d) := wrap_in (by omega) (by omega)
            have e5 : wrap64 (60 * (m + 60 * (h + 24 * d))) = 60 * (m + 60 * (h + 24 * d)) := wrap_in (by omega) (by omega)
            have e6 : wrap64 (s + 60 * (m + 60 * (h + 24 * d))) = s + 60 * (m + 60 * (h + 24 * d)) := wrap_in (by omega) (by omega)
            have e7 : wrap64 (1000 * (s + 60 * (m + 60 * (h + 24 * d)))) = 1000 * (s + 60 * (m + 60 * (h + 24 * d))) := wrap_in (by omega) (by omega)
            have e8 : wrap64 (ms + 1000 * (s + 60 * (m + 60 * (h + 24 * d)))) = ms + 1000 * (s + 60 * (m + 60 * (h + 24 * d))) := wrap_in (by omega) (by omega)
            have te : ((T : Int) == ms + 1000 * (s + 60 * (m + 60 * (h + 24 * d)))) = true := by rw [beq_iff_eq]; exact HTOT.out
            go_wp2_with fail
            refine (LV.out _ HB6.out).mono ?_
            rintro e w9 ⟨rfl, hb⟩
            have HB := Lib.hid hb
            clear hb
            go_wp2_with fail
            go_ret
            exact ⟨rfl, HB.out⟩

theorem partsadd_law (ks : List Int) (hl : ks.length = 5) (hw : ∀ z ∈ ks, (Lit.int .u16 z).wf = true) (w : World) (hu : UnitsAt w) (hp : Pow10At w) :
    Calls Tryd.prog 7 #[.agg (ks.map (Value.int .u16)).toArray] w (LawPost w) := by
  match ks, hl, hw with
  | [d, h, m, s, ms], _, hw =>
    exact partsadd_int d h m s ms (u16_wf (hw d (by simp))) (u16_wf (hw h (by simp))) (u16_wf (hw m (by simp))) (u16_wf (hw s (by simp))) (u16_wf (hw ms (by simp))) w hu hp
end Go.Proofs.YtbhhjaflinfnfaaDoor
