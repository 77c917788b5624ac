/- The walks over few, Same, and the reference's Path, Parent, Within, Ascending. -/
import Derived.Test.YtlpglabhjbfjgaaDoorNlives
import Derived.Test.YtlpglabhjbfjgaaDoorNw3b
import Derived.BigQuiet
namespace Go.Proofs.YtlpglabhjbfjgaaDoor
open Go.RowKit

def fewTo (ss : List ByteArray) (k : Nat) : Prop := ∀ j, j < k → (ss.getD j ByteArray.empty).size ≤ 1000
def fewF (ss : List ByteArray) (most : Nat) : Bool := decide (ss.length ≤ most) && ss.all fun s => decide (s.size ≤ 1000)
theorem fewF_true {ss : List ByteArray} {most : Nat} : fewF ss most = true ↔ ss.length ≤ most ∧ ∀ s ∈ ss, s.size ≤ 1000 := by
  unfold fewF
  rw [Bool.and_eq_true, decide_eq_true_eq, List.all_eq_true]
  simp
def FewRel (w1 : World) (ss : List ByteArray) (f : Nat) (t5 : Value) (wr : World) : Prop :=
  ∃ k : Nat, t5 = .int .i64 (k : Nat) ∧ k ≤ ss.length ∧ f = ss.length - k ∧ fewTo ss k ∧ wr = w1

set_option maxRecDepth 100000 in
set_option maxHeartbeats 800000 in
theorem few_any (v : Value) (ss : List ByteArray) (most : Nat) (hmost : most ≤ 1000) (w : World) (h : StrsAt w v ss) : Calls Tryd.prog 14 #[v, .int .i64 (most : Nat)] w fun e w' => e = .returned (.bool (fewF ss most)) ∧ w' = w := by
  obtain ⟨ao, cap, rfl⟩ := h.form
  have H := Lib.hid h
  clear h
  go_enter Tryd.func14, Tryd.ntmps14
  by_cases hbig : most < ss.length
  · have hb : (most : Int) < (ss.length : Int) := by omega
    have HF : Hid (fewF ss most = false) := by
      unfold Hid; rw [Bool.eq_false_iff]; intro h; have := (fewF_true.1 h).1; omega
    clear hbig
    go_wp2_with fail
    go_ret
    exact ⟨by rw [HF.out]; rfl, rfl⟩
  · have hb : ¬ (most : Int) < (ss.length : Int) := by omega
    have hl : ss.length ≤ most := by omega
    clear hbig
    go_wp2_with fail
    go_loopg [5] ss.length (FewRel w ss)
    case atStart => exact ⟨0, rfl, Nat.zero_le _, rfl, fun j hj => by omega, rfl⟩
    case round =>
      obtain ⟨k, rfl, hk, rfl, hall, rfl⟩ := hrel
      have HALL := Lib.hid hall
      clear hall
      by_cases hlt : k < ss.length
      · obtain ⟨b, off, rfl, hbl, hc⟩ := H.out.at_ hlt
        have hii : (k : Int) < (ss.length : Int) := by omega
        have HK : Hid ((ss.getD k ByteArray.empty).size ≤ 1000 → fewTo ss (k + 1)) := fun h j hj => by
          by_cases e : j = k
          · subst e; exact h
          · exact HALL.out j (by omega)
        have HK2 : Hid (1000 < (ss.getD k ByteArray.empty).size → fewF ss most = false) := fun h => by
          rw [Bool.eq_false_iff]; intro h2
          have := (fewF_true.1 h2).2 _ (List.getElem_mem hlt)
          rw [List.getD, List.getElem?_eq_getElem hlt] at h
          simp at h
          omega
        generalize ss.getD k ByteArray.empty = s at *
        by_cases hs : 1000 < s.size
        · have hs1 : (1000 : Int) < (s.size : Int) := by omega
          have HF := Lib.hid (HK2.out hs)
          clear hs HK HK2
          go_wp2_with fail
          go_ret
          exact ⟨by rw [HF.out]; rfl, rfl⟩
        · have hs1 : ¬ (1000 : Int) < (s.size : Int) := by omega
          have HF := Lib.hid (HK.out (by omega))
          clear hs HK HK2
          go_wp2_with fail
          go_roundg (ss.length - (k + 1))
          case measure => omega
          case rel => exact ⟨k + 1, by go_num, by omega, rfl, HF.out, rfl⟩
      · have he : k = ss.length := by omega
        subst he
        have HF : Hid (fewF ss most = true) := fewF_true.2 ⟨hl, fun s hs => by
          obtain ⟨j, hj, rfl⟩ := List.mem_iff_getElem.1 hs
          have := HALL.out j hj
          rw [List.getD, List.getElem?_eq_getElem hj] at this
          exact this⟩
        go_wp2_with fail
        go_ret
        exact ⟨by rw [HF.out]; rfl, rfl⟩

def sameTo (xs ys : List ByteArray) (k : Nat) : Prop := ∀ j, j < k → xs.getD j ByteArray.empty = ys.getD j ByteArray.empty
theorem sameTo_all {xs ys : List ByteArray} (hl : xs.length = ys.length) : sameTo xs ys xs.length ↔ xs = ys := by
  constructor
  · intro h
    apply List.ext_getElem hl
    intro i h1 h2
    have := h i h1
    rw [List.getD, List.getD, List.getElem?_eq_getElem h1, List.getElem?_eq_getElem h2] at this
    exact this
  · rintro rfl j _; rfl
def SameRel (w1 : World) (xs ys : List ByteArray) (f : Nat) (t5 : Value) (wr : World) : Prop :=
  ∃ k : Nat, t5 = .int .i64 (k : Nat) ∧ k ≤ xs.length ∧ f = xs.length - k ∧ sameTo xs ys k ∧ Below w1.heap.size w1 wr
theorem tl_eq (x y : ByteArray) : (x.toList == y.toList) = decide (x = y) := by
  rw [Bool.eq_iff_iff, beq_iff_eq, decide_eq_true_eq, Lib.toList_data, Lib.toList_data]
  exact ⟨fun h => by rw [← Lib.mk_data x, h, Lib.mk_data], fun h => by rw [h]⟩

set_option maxRecDepth 100000 in
set_option maxHeartbeats 1600000 in
theorem same_any (u v : Value) (xs ys : List ByteArray) (hl : xs.length ≤ 1000000) (w : World) (h : StrsAt w u xs) (k : StrsAt w v ys) : Calls Tryd.prog 18 #[u, v] w fun e w' => e = .returned (.bool (decide (xs = ys))) ∧ Below w.heap.size w w' := by
  obtain ⟨ao, cap, rfl⟩ := h.form
  obtain ⟨bo, cbp, rfl⟩ := k.form
  have H := Lib.hid h
  have K := Lib.hid k
  clear h k
  go_enter Tryd.func18, Tryd.ntmps18
  by_cases hne : xs.length = ys.length
  · have t1 : ((xs.length : Int) != (ys.length : Int)) = false := by simp; omega
    have HSA := Lib.hid (sameTo_all hne)
    go_wp2_with fail
    go_loopg [5] xs.length (SameRel w xs ys)
    case atStart => exact ⟨0, rfl, Nat.zero_le _, rfl, fun j hj => by omega, Below.refl _ _⟩
    case round =>
      obtain ⟨k, rfl, hk, rfl, hall, hbel⟩ := hrel
      have HALL := Lib.hid hall
      have HB := Lib.hid hbel
      clear hall hbel
      by_cases hlt : k < xs.length
      · obtain ⟨b, off, rfl, hbl, hc⟩ := (H.out.below HB.out).at_ hlt
        obtain ⟨b2, off2, rfl, hbl2, hc2⟩ := (K.out.below HB.out).at_ (show k < ys.length by omega)
        have hii : (k : Int) < (xs.length : Int) := by omega
        have hjj : (k : Int) < (ys.length : Int) := by omega
        have HK : Hid (xs.getD k ByteArray.empty = ys.getD k ByteArray.empty → sameTo xs ys (k + 1)) := fun h j hj => by
          by_cases e : j = k
          · subst e; exact h
          · exact HALL.out j (by omega)
        have HK2 : Hid (¬ xs.getD k ByteArray.empty = ys.getD k ByteArray.empty → ¬ xs = ys) := fun h e => h (by rw [e])
        generalize xs.getD k ByteArray.empty = x at *
        generalize ys.getD k ByteArray.empty = y at *
        have hxy := tl_eq x y
        clear hne
        by_cases he : x = y
        · have HF := Lib.hid (HK.out he)
          have t2 : (!x.toList == y.toList) = false := by rw [hxy, decide_eq_true he]; rfl
          clear he HK HK2 hxy
          as_aux_lemma =>
          go_upto_region 6 with fail
          go_quiet (fail)
          go_wp2_with fail
          go_roundg (xs.length - (k + 1))
          case measure => omega
          case rel => exact ⟨k + 1, by go_num, by omega, rfl, HF.out, HB.out.trans ⟨rfl, rfl, rfl, Nat.le_refl _, fun _ _ => rfl⟩⟩
        · have HF := Lib.hid (HK2.out he)
          have t2 : (!x.toList == y.toList) = true := by rw [hxy, decide_eq_false he]; rfl
          clear he HK HK2 hxy
          as_aux_lemma =>
          go_upto_region 6 with fail
          go_quiet (fail)
          go_wp2_with fail
          go_ret
          exact ⟨by rw [decide_eq_false HF.out]; rfl, HB.out.trans ⟨rfl, rfl, rfl, Nat.le_refl _, fun _ _ => rfl⟩⟩
      · have he : k = xs.length := by omega
        subst he
        have HF := Lib.hid (HSA.out.1 HALL.out)
        clear hne
        go_wp2_with fail
        go_ret
        exact ⟨by rw [decide_eq_true HF.out]; rfl, HB.out⟩
  · have t1 : ((xs.length : Int) != (ys.length : Int)) = true := by rw [bne_iff_ne]; omega
    have HF : Hid (¬ xs = ys) := fun h => hne (by rw [h])
    clear hne
    go_wp2_with fail
    go_ret
    exact ⟨by rw [decide_eq_false HF.out]; rfl, Below.refl _ _⟩

set_option maxRecDepth 100000 in
set_option maxHeartbeats 1600000 in
theorem rparent_any (s : ByteArray) (w : World) : Calls Tryd.prog 20 #[.string s] w fun e w' =>
    ∃ p : ByteArray, e = .returned (.tuple #[.string p, .bool (hasP s.data.toList)]) ∧ p.data.toList = parS s.data.toList ∧ Below w.heap.size w w' := by
  have HPS : Hid (hasP s.data.toList = (decide (partsF s.data.toList = 0) && decide (2 ≤ (pcs 47 s.data.toList).length))) := rfl
  have HPA : Hid (parS s.data.toList = if hasP s.data.toList then jn (pcs 47 s.data.toList).dropLast else []) := rfl
  have HLEN := Lib.hid (fun h => (partsF_zero (l := s.data.toList) h).1)
  have HPL := Lib.hid (pcs_len 47 s.data.toList)
  have HJT := Lib.hid (fun h => jn_take (L := pcs 47 s.data.toList) h)
  rw [jn_pcs, ← Lib.size_eq] at HJT
  have PAR := Lib.hid (rparts_any s w)
  go_enter Tryd.func20, Tryd.ntmps20
  go_wp2_with fail
  refine PAR.out.mono ?_
  rintro e w1 ⟨v, ss, rfl, hb, h0, h1⟩
  have HB := Lib.hid hb
  clear hb
  by_cases hp : partsF s.data.toList = 0
  · obtain ⟨hat, hss⟩ := h0 hp
    obtain ⟨ao, cap, rfl⟩ := hat.form
    have hsl : ss.length = (pcs 47 s.data.toList).length := by rw [← hss, List.length_map]
    have hl5 : ss.length ≤ 513 := by have := HLEN.out hp; have := HPL.out; omega
    rw [hp]
    by_cases h2 : 2 ≤ ss.length
    · have HH : Hid (hasP s.data.toList = true) := by unfold Hid; rw [HPS.out, decide_eq_true hp, ← hsl, decide_eq_true h2]; rfl
      have HQ : Hid (parS s.data.toList = jn (pcs 47 s.data.toList).dropLast) := by unfold Hid; rw [HPA.out, if_pos HH.out]
      have hlt : ¬ (ss.length : Int) < 2 := by omega
      obtain ⟨b, off, rfl, hbl, hc⟩ := hat.at_ (k := ss.length - 1) (by omega)
      obtain ⟨hj1, hj2⟩ := HJT.out (by rw [← hsl]; exact h2)
      have hlast : (pcs 47 s.data.toList).getLastD [] = (ss.getD (ss.length - 1) ByteArray.empty).data.toList := by
        rw [← hss, List.getLastD_eq_getLast?, List.getLast?_eq_getElem?, List.length_map, List.getElem?_map, List.getD]
        rw [List.getElem?_eq_getElem (show ss.length - 1 < ss.length by omega)]; rfl
      rw [hlast, ← Lib.size_eq] at hj1 hj2
      have HJ1 := Lib.hid hj1
      have hz : s.size ≤ 512 := by have := HLEN.out hp; rw [Lib.size_eq]; exact this
      clear hat hss h0 h1 hp hsl hj1 hlast
      generalize ss.getD (ss.length - 1) ByteArray.empty = r at *
      generalize ss.length = n at *
      have hn1 : (1 : Int) ≤ (n : Int) := by omega
      have hd1 : (s.size : Int) - (r.size : Int) = ((s.size - r.size : Nat) : Int) := by omega
      have hd2 : (s.size : Int) - (r.size : Int) - 1 = ((s.size - r.size - 1 : Nat) : Int) := by omega
      have q1 : (r.size : Int) + 1 ≤ (s.size : Int) := by omega
      have EX : Hid ((s.extract 0 (s.size - r.size - 1)).data.toList = jn (pcs 47 s.data.toList).dropLast) := by
        unfold Hid
        rw [← HJ1.out, Lib.extract_data]; simp
      go_wp2_with fail
      go_ret2
      rw [HH.out, HQ.out]
      exact ⟨_, rfl, EX.out, HB.out⟩
    · have HH : Hid (hasP s.data.toList = false) := by unfold Hid; rw [HPS.out, ← hsl, decide_eq_false h2, Bool.and_false]
      have HQ : Hid (parS s.data.toList = []) := by unfold Hid; rw [HPA.out, if_neg (by rw [HH.out]; decide)]
      have hlt : (ss.length : Int) < 2 := by omega
      clear hat hss h0 h1 hp hsl
      go_wp2_with fail
      go_ret2
      rw [HH.out, HQ.out]
      exact ⟨⟨#[]⟩, rfl, rfl, HB.out⟩
  · obtain rfl := h1 hp
    have HH : Hid (hasP s.data.toList = false) := by unfold Hid; rw [HPS.out, decide_eq_false hp]; rfl
    have HQ : Hid (parS s.data.toList = []) := by unfold Hid; rw [HPA.out, if_neg (by rw [HH.out]; decide)]
    have hpb : ((partsF s.data.toList : Int) != 0) = true := by rw [bne_iff_ne]; omega
    clear h0 h1 hp
    go_wp2_with fail
    go_ret2
    rw [HH.out, HQ.out]
    exact ⟨⟨#[]⟩, rfl, rfl, HB.out⟩

def RWithRel (w1 : World) (xs ys : List ByteArray) (f : Nat) (t9 : Value) (wr : World) : Prop :=
  ∃ k : Nat, t9 = .int .i64 (k : Nat) ∧ k ≤ ys.length ∧ f = ys.length - k ∧ sameTo xs ys k ∧ Below w1.heap.size w1 wr
theorem pre_iff {xs ys : List ByteArray} (hl : ys.length ≤ xs.length) : sameTo xs ys ys.length ↔ (datas xs).take (datas ys).length = datas ys := by
  have e : (datas xs).take (datas ys).length = datas (xs.take ys.length) := by unfold datas; rw [List.length_map, List.map_take]
  rw [e]
  have hlen : (xs.take ys.length).length = ys.length := by rw [List.length_take]; omega
  constructor
  · intro h
    have : xs.take ys.length = ys := by
      apply List.ext_getElem hlen
      intro i h1 h2
      have := h i h2
      rw [List.getD, List.getD, List.getElem?_eq_getElem h2, List.getElem?_eq_getElem (show i < xs.length by omega)] at this
      rw [List.getElem_take]
      exact this
    rw [this]
  · intro h j hj
    have := datas_inj _ _ h
    have h2 := congrArg (·.getD j ByteArray.empty) this
    simp only [List.getD, List.getElem?_take, if_pos hj] at h2
    exact h2

set_option maxRecDepth 100000 in
set_option maxHeartbeats 1600000 in
theorem rwithin_any (s d : ByteArray) (w : World) : Calls Tryd.prog 22 #[.string s, .string d] w fun e w' =>
    e = .returned (.bool (withF s.data.toList d.data.toList)) ∧ Below w.heap.size w w' := by
  have HW : Hid (withF s.data.toList d.data.toList = (decide (partsF s.data.toList = 0) && decide (partsF d.data.toList = 0) && decide ((pcs 47 d.data.toList).length ≤ (pcs 47 s.data.toList).length) && decide ((pcs 47 s.data.toList).take (pcs 47 d.data.toList).length = pcs 47 d.data.toList))) := rfl
  have hl1 : partsF s.data.toList = 0 → (pcs 47 s.data.toList).length ≤ 513 := fun h => by have := (partsF_zero h).1; have := pcs_len 47 s.data.toList; omega
  have hl2 : partsF d.data.toList = 0 → (pcs 47 d.data.toList).length ≤ 513 := fun h => by have := (partsF_zero h).1; have := pcs_len 47 d.data.toList; omega
  have HL1 := Lib.hid hl1
  have HL2 := Lib.hid hl2
  clear hl1 hl2
  go_enter Tryd.func22, Tryd.ntmps22
  go_wp2_with fail
  refine (rparts_any s w).mono ?_
  rintro e w1 ⟨v1, ss1, rfl, hb, h0, h1⟩
  have HB1 := Lib.hid hb
  have H0 := Lib.hid h0
  clear hb h0 h1
  go_wp2_with fail
  refine (rparts_any d w1).mono ?_
  rintro e w2 ⟨v2, ss2, rfl, hb, k0, k1⟩
  have HB2 := Lib.hid (HB1.out.trans (hb.mono HB1.out.size))
  have HB12 := Lib.hid hb
  have K0 := Lib.hid k0
  clear hb k0 k1
  by_cases hp : partsF s.data.toList = 0
  · obtain ⟨hat1, hs1⟩ := H0.out hp
    rw [hp]
    by_cases hq : partsF d.data.toList = 0
    · obtain ⟨hat2, hs2⟩ := K0.out hq
      rw [hq]
      have hat1 := hat1.below HB12.out
      have hn1 : ss1.length = (pcs 47 s.data.toList).length := by rw [← hs1, List.length_map]
      have hn2 : ss2.length = (pcs 47 d.data.toList).length := by rw [← hs2, List.length_map]
      have hb1 := HL1.out hp
      have hb2 := HL2.out hq
      rw [← hn1] at hb1
      rw [← hn2] at hb2
      obtain ⟨a1, c1, rfl⟩ := hat1.form
      obtain ⟨a2, c2, rfl⟩ := hat2.form
      by_cases hle : ss2.length ≤ ss1.length
      · have HWD : withF s.data.toList d.data.toList = decide ((datas ss1).take (datas ss2).length = datas ss2) := by
          rw [HW.out, decide_eq_true hp, decide_eq_true hq, ← hn1, ← hn2, decide_eq_true hle]
          simp only [Bool.true_and]
          rw [decide_eq_decide, ← hs1, ← hs2]
          have e : ss2.length = (datas ss2).length := by simp
          rw [← e]
        have HRT : Hid (sameTo ss1 ss2 ss2.length → withF s.data.toList d.data.toList = true) := fun h => by
          rw [HWD, decide_eq_true_eq]; exact (pre_iff hle).1 h
        have HRF : Hid (∀ j, j < ss2.length → ¬ ss1.getD j ByteArray.empty = ss2.getD j ByteArray.empty → withF s.data.toList d.data.toList = false) := fun j hj h => by
          rw [HWD, decide_eq_false_iff_not]; exact fun e => h ((pre_iff hle).2 e j hj)
        clear HWD
        have hlei : ¬ (ss1.length : Int) < (ss2.length : Int) := by omega
        have H1 := Lib.hid hat1
        have H2 := Lib.hid hat2
        clear hat1 hat2 hs1 hs2 hn1 hn2 hp hq H0 K0 HL1 HL2
        go_wp2_with fail
        go_loopg [9] ss2.length (RWithRel w2 ss1 ss2)
        case atStart => exact ⟨0, rfl, Nat.zero_le _, rfl, fun j hj => by omega, Below.refl _ _⟩
        case round =>
          obtain ⟨k, rfl, hk, rfl, hall, hbel⟩ := hrel
          have HALL := Lib.hid hall
          have HB := Lib.hid hbel
          clear hall hbel
          by_cases hlt : k < ss2.length
          · obtain ⟨b, off, rfl, hbl, hc⟩ := (H1.out.below HB.out).at_ (show k < ss1.length by omega)
            obtain ⟨b2, off2, rfl, hbl2, hc2⟩ := (H2.out.below HB.out).at_ hlt
            have hii : (k : Int) < (ss1.length : Int) := by omega
            have hjj : (k : Int) < (ss2.length : Int) := by omega
            have HK : Hid (ss1.getD k ByteArray.empty = ss2.getD k ByteArray.empty → sameTo ss1 ss2 (k + 1)) := fun h j hj => by
              by_cases e : j = k
              · subst e; exact h
              · exact HALL.out j (by omega)
            have HK2 := Lib.hid (HRF.out k hlt)
            generalize ss1.getD k ByteArray.empty = x at *
            generalize ss2.getD k ByteArray.empty = y at *
            have hxy := tl_eq x y
            by_cases he : x = y
            · have HF := Lib.hid (HK.out he)
              have t2 : (!x.toList == y.toList) = false := by rw [hxy, decide_eq_true he]; rfl
              clear he HK HK2 hxy
              as_aux_lemma =>
              go_upto_region 8 with fail
              go_quiet (fail)
              go_wp2_with fail
              go_roundg (ss2.length - (k + 1))
              case measure => omega
              case rel => exact ⟨k + 1, by go_num, by omega, rfl, HF.out, HB.out.trans ⟨rfl, rfl, rfl, Nat.le_refl _, fun _ _ => rfl⟩⟩
            · have HF := Lib.hid (HK2.out he)
              have t2 : (!x.toList == y.toList) = true := by rw [hxy, decide_eq_false he]; rfl
              clear he HK HK2 hxy
              as_aux_lemma =>
              go_upto_region 8 with fail
              go_quiet (fail)
              go_wp2_with fail
              go_ret
              exact ⟨by rw [HF.out]; rfl, HB2.out.trans ((HB.out.mono HB2.out.size).trans ⟨rfl, rfl, rfl, Nat.le_refl _, fun _ _ => rfl⟩)⟩
          · have he : k = ss2.length := by omega
            subst he
            have HF := Lib.hid (HRT.out HALL.out)
            go_wp2_with fail
            go_ret
            exact ⟨by rw [HF.out]; rfl, HB2.out.trans (HB.out.mono HB2.out.size)⟩
      · have HR : Hid (withF s.data.toList d.data.toList = false) := by
          unfold Hid
          rw [HW.out, ← hn1, ← hn2, decide_eq_false hle]; simp
        have hlei : (ss1.length : Int) < (ss2.length : Int) := by omega
        clear hat1 hat2 hs1 hs2 hn1 hn2 hp hq
        go_wp2_with fail
        go_ret
        exact ⟨by rw [HR.out]; rfl, HB2.out⟩
    · have HR : Hid (withF s.data.toList d.data.toList = false) := by unfold Hid; rw [HW.out, decide_eq_false hq]; simp
      have hqb : ((partsF d.data.toList : Int) != 0) = true := by rw [bne_iff_ne]; omega
      clear hp hq hat1 hs1
      go_wp2_with fail
      go_ret
      exact ⟨by rw [HR.out]; rfl, HB2.out⟩
  · have HR : Hid (withF s.data.toList d.data.toList = false) := by unfold Hid; rw [HW.out, decide_eq_false hp]; simp
    have hqb : ((partsF s.data.toList : Int) != 0) = true := by rw [bne_iff_ne]; omega
    clear hp
    go_wp2_with fail
    go_ret
    exact ⟨by rw [HR.out]; rfl, HB2.out⟩
end Go.Proofs.YtlpglabhjbfjgaaDoor
