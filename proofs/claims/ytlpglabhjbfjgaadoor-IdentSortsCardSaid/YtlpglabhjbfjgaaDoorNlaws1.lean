/- The walks over the laws Names, Compares, Order. -/
import Derived.Test.YtlpglabhjbfjgaaDoorNlives
import Derived.Test.YtlpglabhjbfjgaaDoorNw3b
namespace Go.Proofs.YtlpglabhjbfjgaaDoor
open Go.RowKit

theorem one_path (l : Bs) : pathN [l] = (if nameF l then 0 else 1) ∧ pathS [l] = (if nameF l then l else []) := by
  have h : pathN [l] = (if nameF l then 0 else 1) := by
    unfold pathN
    rw [if_neg (List.cons_ne_nil _ _), jn, Lib.join_one]
    simp only [List.all_cons, List.all_nil, Bool.and_true]
    by_cases hn : nameF l = true
    · rw [if_pos hn, if_pos hn, if_neg]
      unfold nameF at hn
      rw [Bool.and_eq_true, Bool.and_eq_true, decide_eq_true_eq, decide_eq_true_eq] at hn
      omega
    · rw [if_neg hn, if_neg hn]
  refine ⟨h, ?_⟩
  unfold pathS
  rw [h]
  by_cases hn : nameF l = true
  · rw [if_pos hn, if_pos rfl, jn, Lib.join_one, if_pos hn]
  · rw [if_neg hn, if_neg (by decide), if_neg hn]

theorem lives_at {m : Int} {w : World} (hm : w.cell? ⟨0, 0, none⟩ = some (.int .i64 m)) (hg : 0 < w.heap.size) :
    ∀ W, Below w.heap.size w W → Calls Tryd.prog 10 #[] W fun e w' => e = .returned (.bool true) ∧ Below w.heap.size w w' := fun W hW =>
  (lives_any m W ((hW.cell (p := ⟨0, 0, none⟩) hg).trans hm) (Nat.lt_of_lt_of_le hg hW.size)).mono (by
    rintro e w' ⟨rfl, hb⟩
    exact ⟨rfl, hW.trans (hb.mono hW.size)⟩)

set_option maxRecDepth 100000 in
set_option maxHeartbeats 1600000 in
theorem names_law (s : ByteArray) (m : Int) (w : World) (hm : w.cell? ⟨0, 0, none⟩ = some (.int .i64 m)) (hg : 0 < w.heap.size) : Calls Tryd.prog 3 #[.string s] w (LawPost w) := by
  have LV := Lib.hid (lives_at hm hg)
  clear hm hg
  have B0 := Lib.hid (Below.refl w.heap.size w)
  go_enter Tryd.func3, Tryd.ntmps3
  by_cases hbig : 1000 < s.size
  · have hb1 : (1000 : Int) < (s.size : Int) := by omega
    go_wp2_with fail
    refine (LV.out _ B0.out).mono ?_
    rintro e w9 ⟨rfl, hb⟩
    have HB := Lib.hid hb
    clear hb
    go_wp2_with fail
    go_ret
    exact ⟨rfl, HB.out⟩
  · have hb1 : ¬ (1000 : Int) < (s.size : Int) := by omega
    have OP := Lib.hid (one_path s.data.toList)
    go_wp2_with fail
    refine (path_any _ [s] (by simp) _ (strs_new w [s])).mono ?_
    rintro e w1 ⟨p, he, hp, hb⟩
    have B1 := Lib.hid ((B0.out.alloc (Nat.le_refl _) (.cells #[.string s] 9)).trans (hb.mono (by simp)))
    clear hb
    rw [show datas [s] = [s.data.toList] from rfl, OP.out.1] at he
    rw [show datas [s] = [s.data.toList] from rfl, OP.out.2] at hp
    cases hn : nameF s.data.toList with
    | true =>
      rw [if_pos hn] at he hp
      obtain rfl : p = s := by rw [str_lit hp, Lib.mk_data]
      subst he
      have HN := Lib.hid hn
      have hss : (p.toList == p.toList) = true := beq_self_eq_true _
      clear hp hn OP
      go_wp2_with fail
      refine (name_any p w1).mono ?_
      rintro e w2 ⟨he, hb⟩
      rw [HN.out] at he
      subst he
      have B2 := Lib.hid (B1.out.trans (hb.mono B1.out.size))
      clear hb
      go_wp2_with fail
      refine (rname_any p w2).mono ?_
      rintro e w3 ⟨he, rfl⟩
      rw [HN.out] at he
      subst he
      go_wp2_with fail
      refine (name_any p w3).mono ?_
      rintro e w4 ⟨he, hb⟩
      rw [HN.out] at he
      subst he
      have B4 := Lib.hid (B2.out.trans (hb.mono B2.out.size))
      clear hb
      go_wp2_with fail
      refine (LV.out _ B4.out).mono ?_
      rintro e w9 ⟨rfl, hb⟩
      have HB := Lib.hid hb
      clear hb
      go_wp2_with fail
      go_ret
      exact ⟨rfl, HB.out⟩
    | false =>
      rw [if_neg (by rw [hn]; decide)] at he hp
      obtain rfl := str_lit hp
      subst he
      have HN := Lib.hid hn
      clear hp hn OP
      go_wp2_with fail
      refine (name_any s w1).mono ?_
      rintro e w2 ⟨he, hb⟩
      rw [HN.out] at he
      subst he
      have B2 := Lib.hid (B1.out.trans (hb.mono B1.out.size))
      clear hb
      go_wp2_with fail
      refine (rname_any s w2).mono ?_
      rintro e w3 ⟨he, rfl⟩
      rw [HN.out] at he
      subst he
      go_wp2_with fail
      refine (name_any s w3).mono ?_
      rintro e w4 ⟨he, hb⟩
      rw [HN.out] at he
      subst he
      have B4 := Lib.hid (B2.out.trans (hb.mono B2.out.size))
      clear hb
      go_wp2_with fail
      refine (LV.out _ B4.out).mono ?_
      rintro e w9 ⟨rfl, hb⟩
      have HB := Lib.hid hb
      clear hb
      go_wp2_with fail
      go_ret
      exact ⟨rfl, HB.out⟩

set_option maxRecDepth 100000 in
set_option maxHeartbeats 1600000 in
theorem compares_law (a b : ByteArray) (m : Int) (w : World) (hm : w.cell? ⟨0, 0, none⟩ = some (.int .i64 m)) (hg : 0 < w.heap.size) : Calls Tryd.prog 7 #[.string a, .string b] w (LawPost w) := by
  have LV := Lib.hid (lives_at hm hg)
  clear hm hg
  have B0 := Lib.hid (Below.refl w.heap.size w)
  go_enter Tryd.func7, Tryd.ntmps7
  by_cases ha : 1000 < a.size
  · have hb1 : (1000 : Int) < (a.size : Int) := by omega
    go_wp2_with fail
    refine (LV.out _ B0.out).mono ?_
    rintro e w9 ⟨rfl, hb⟩
    have HB := Lib.hid hb
    clear hb
    go_wp2_with fail
    go_ret
    exact ⟨rfl, HB.out⟩
  · have hb1 : decide ((1000 : Int) < (a.size : Int)) = false := by simp; omega
    by_cases hb : 1000 < b.size
    · have hb2 : (1000 : Int) < (b.size : Int) := by omega
      go_wp2_with fail
      refine (LV.out _ B0.out).mono ?_
      rintro e w9 ⟨rfl, hb⟩
      have HB := Lib.hid hb
      clear hb
      go_wp2_with fail
      go_ret
      exact ⟨rfl, HB.out⟩
    · have hb2 : decide ((1000 : Int) < (b.size : Int)) = false := by simp; omega
      go_wp2_with fail
      refine (compare_any a b (by omega) (by omega) _).mono ?_
      rintro e w1 ⟨rfl, hu⟩
      have U1 := Lib.hid hu
      clear hu
      go_wp2_with fail
      refine (rcompare_any a b (by omega) (by omega) _).mono ?_
      rintro e w2 ⟨rfl, hu⟩
      have U2 := Lib.hid (U1.out.trans hu)
      clear hu
      generalize natC a.data.toList b.data.toList = x
      have hx : (x == x) = true := beq_self_eq_true x
      go_wp2_with fail
      refine (LV.out _ U2.out.b).mono ?_
      rintro e w9 ⟨rfl, hb⟩
      have HB := Lib.hid hb
      clear hb
      go_wp2_with fail
      go_ret
      exact ⟨rfl, HB.out⟩

theorem order_facts (a b c : ByteArray) : (natC a.data.toList b.data.toList = -1 ∨ natC a.data.toList b.data.toList = 0 ∨ natC a.data.toList b.data.toList = 1) ∧ (natC b.data.toList c.data.toList = -1 ∨ natC b.data.toList c.data.toList = 0 ∨ natC b.data.toList c.data.toList = 1) ∧ (natC a.data.toList c.data.toList = -1 ∨ natC a.data.toList c.data.toList = 0 ∨ natC a.data.toList c.data.toList = 1) ∧
    (natC a.data.toList b.data.toList ≤ 0 → natC b.data.toList c.data.toList ≤ 0 → natC a.data.toList c.data.toList ≤ 0) ∧ (0 ≤ natC a.data.toList b.data.toList → 0 ≤ natC b.data.toList c.data.toList → 0 ≤ natC a.data.toList c.data.toList) ∧
    (a.toList == b.toList) = decide (natC a.data.toList b.data.toList = 0) ∧ natC b.data.toList a.data.toList = - natC a.data.toList b.data.toList := by
  have t1 := natC_po.trans a.data.toList b.data.toList c.data.toList
  have t2 := natC_po.trans c.data.toList b.data.toList a.data.toList
  have a1 := natC_po.anti a.data.toList b.data.toList
  have a2 := natC_po.anti b.data.toList c.data.toList
  have a3 := natC_po.anti a.data.toList c.data.toList
  refine ⟨natC_po.rng _ _, natC_po.rng _ _, natC_po.rng _ _, t1, by omega, ?_, a1⟩
  rw [Bool.eq_iff_iff, beq_iff_eq, decide_eq_true_eq, Lib.toList_data, Lib.toList_data]
  exact ⟨fun h => by rw [h]; exact natC_po.refl _, natC_eq⟩

set_option maxRecDepth 100000 in
set_option maxHeartbeats 3200000 in
theorem order_law (a b c : ByteArray) (m : Int) (w : World) (hm : w.cell? ⟨0, 0, none⟩ = some (.int .i64 m)) (hg : 0 < w.heap.size) : Calls Tryd.prog 8 #[.string a, .string b, .string c] w (LawPost w) := by
  have LV := Lib.hid (lives_at hm hg)
  clear hm hg
  have B0 := Lib.hid (Below.refl w.heap.size w)
  go_enter Tryd.func8, Tryd.ntmps8
  by_cases hbig : 1000 < a.size ∨ 1000 < b.size ∨ 1000 < c.size
  · by_cases ha : 1000 < a.size
    · have hb1 : (1000 : Int) < (a.size : Int) := by omega
      clear hbig
      go_wp2_with fail
      refine (LV.out _ B0.out).mono ?_
      rintro e w9 ⟨rfl, hb⟩
      have HB := Lib.hid hb
      clear hb
      go_wp2_with fail
      go_ret
      exact ⟨rfl, HB.out⟩
    · have hb1 : decide ((1000 : Int) < (a.size : Int)) = false := by simp; omega
      by_cases hb : 1000 < b.size
      · have hb2 : (1000 : Int) < (b.size : Int) := by omega
        clear hbig
        go_wp2_with fail
        refine (LV.out _ B0.out).mono ?_
        rintro e w9 ⟨rfl, hb⟩
        have HB := Lib.hid hb
        clear hb
        go_wp2_with fail
        go_ret
        exact ⟨rfl, HB.out⟩
      · have hb2 : decide ((1000 : Int) < (b.size : Int)) = false := by simp; omega
        have hb3 : (1000 : Int) < (c.size : Int) := by omega
        clear hbig
        go_wp2_with fail
        refine (LV.out _ B0.out).mono ?_
        rintro e w9 ⟨rfl, hb⟩
        have HB := Lib.hid hb
        clear hb
        go_wp2_with fail
        go_ret
        exact ⟨rfl, HB.out⟩
  · have ha : a.size ≤ 1000 := by omega
    have hb : b.size ≤ 1000 := by omega
    have hc : c.size ≤ 1000 := by omega
    have hb1 : decide ((1000 : Int) < (a.size : Int)) = false := by simp; omega
    have hb2 : decide ((1000 : Int) < (b.size : Int)) = false := by simp; omega
    have hb3 : decide ((1000 : Int) < (c.size : Int)) = false := by simp; omega
    clear hbig
    have OF := Lib.hid (order_facts a b c)
    have CBA := fun W => Lib.hid (compare_any b a (by omega) (by omega) W)
    go_wp2_with fail
    refine (compare_any a b (by omega) (by omega) _).mono ?_
    rintro e w1 ⟨rfl, hu⟩
    have U1 := Lib.hid hu
    clear hu
    go_wp2_with fail
    refine (compare_any b c (by omega) (by omega) _).mono ?_
    rintro e w2 ⟨rfl, hu⟩
    have U2 := Lib.hid (U1.out.trans hu)
    clear hu
    go_wp2_with fail
    refine (compare_any a c (by omega) (by omega) _).mono ?_
    rintro e w3 ⟨rfl, hu⟩
    have U3 := Lib.hid (U2.out.trans hu)
    clear hu
    rw [OF.out.2.2.2.2.2.2] at CBA
    clear ha hb hc hb1 hb2 hb3 U1 U2
    obtain ⟨rx, ry, rz, t1, t2, hse, _⟩ := OF.out
    clear OF
    generalize natC a.data.toList b.data.toList = x at *
    generalize natC b.data.toList c.data.toList = y at *
    generalize natC a.data.toList c.data.toList = z at *
    rcases rx with rfl | rfl | rfl <;> rcases ry with rfl | rfl | rfl <;> rcases rz with rfl | rfl | rfl <;>
      first
      | (exfalso; omega)
      | (clear t1 t2
         simp only [decide_true, decide_false, reduceCtorEq, Int.reduceNeg, Int.reduceEq] at hse
         go_wp2_with fail
         refine (CBA _).out.mono ?_
         rintro e w4 ⟨rfl, hu⟩
         have U4 := Lib.hid (U3.out.trans hu)
         clear hu
         go_wp2_with fail
         refine (LV.out _ U4.out.b).mono ?_
         rintro e w9 ⟨rfl, hb⟩
         have HB := Lib.hid hb
         clear hb
         go_wp2_with fail
         go_ret
         exact ⟨rfl, HB.out⟩)
end Go.Proofs.YtlpglabhjbfjgaaDoor
