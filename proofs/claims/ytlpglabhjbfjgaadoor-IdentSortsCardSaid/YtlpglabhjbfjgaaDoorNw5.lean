/- The walks over Path, Parent, Within, Ascending. -/
import Derived.Test.YtlpglabhjbfjgaaDoorNw4
import Derived.Test.YtlpglabhjbfjgaaDoorPaths
namespace Go.Proofs.YtlpglabhjbfjgaaDoor
open Go.RowKit

theorem wrap_in {t : Int} (h1 : -9223372036854775808 ≤ t) (h2 : t ≤ 9223372036854775807) : wrap64 t = t := by
  unfold wrap64; omega

abbrev datas (ss : List ByteArray) : List Bs := ss.map (·.data.toList)
theorem datas_all (ss : List ByteArray) : (datas ss).all nameF = allN ss ss.length := by
  unfold allN datas
  rw [List.take_length, List.all_map]
  rfl

set_option maxRecDepth 100000 in
set_option maxHeartbeats 800000 in
theorem names_all (v : Value) (ss : List ByteArray) (hl : ss.length ≤ 1000000) (w : World) (h : StrsAt w v ss) :
    Calls Tryd.prog 29 #[v] w fun e w' => e = .returned (.bool (decide (0 < ss.length) && allN ss ss.length)) ∧ Below w.heap.size w w' := by
  by_cases h0 : 0 < ss.length
  · refine (names_any v ss hl h0 w h).mono ?_
    rintro e w' ⟨rfl, hb⟩
    exact ⟨by simp [h0], hb⟩
  · obtain ⟨ao, cap, rfl⟩ := h.form
    have h1 : ss.length = 0 := by omega
    rw [h1]
    clear h
    go_enter Tryd.func29, Tryd.ntmps29
    go_wp2_with fail
    go_ret
    exact ⟨rfl, Below.refl _ _⟩

def lensTo (ss : List ByteArray) (k : Nat) : Nat := ((ss.take k).map ByteArray.size).sum
theorem lensTo_succ {ss : List ByteArray} {k : Nat} (hk : k < ss.length) : lensTo ss (k + 1) = lensTo ss k + (ss.getD k ByteArray.empty).size := by
  unfold lensTo
  rw [List.take_add_one, List.getElem?_eq_getElem hk, List.map_append, List.sum_append]
  simp [List.getD, hk]
theorem lensTo_le {ss : List ByteArray} (h : allN ss ss.length = true) : ∀ k, k ≤ ss.length → lensTo ss k ≤ 64 * k
  | 0, _ => by simp [lensTo]
  | k + 1, hk => by
    rw [lensTo_succ (by omega)]
    have := lensTo_le h k (by omega)
    have hn : nameF (ss.getD k ByteArray.empty).data.toList = true := by
      cases hx : nameF (ss.getD k ByteArray.empty).data.toList with
      | true => rfl
      | false => rw [allN_no (show k < ss.length by omega) hx] at h; cases h
    unfold nameF at hn
    rw [Bool.and_eq_true, Bool.and_eq_true, decide_eq_true_eq, decide_eq_true_eq] at hn
    rw [Lib.size_eq]; omega
theorem lens_datas (ss : List ByteArray) : Lib.lens (datas ss) = lensTo ss ss.length := by
  unfold lensTo Lib.lens datas
  rw [List.take_length, List.map_map]
  congr 1
theorem jn_len {ss : List ByteArray} (h : 0 < ss.length) : (jn (datas ss)).length + 1 = ss.length + lensTo ss ss.length := by
  rw [← lens_datas]
  cases ss with
  | nil => simp at h
  | cons s ss =>
    unfold jn datas
    rw [List.map_cons, Lib.join_length]
    simp
    omega
theorem pathN_of {ss : List ByteArray} (h : 0 < ss.length) (ha : allN ss ss.length = true) : pathN (datas ss) = if 512 < (jn (datas ss)).length then 3 else 0 := by
  have hne : datas ss ≠ [] := by intro e; have := congrArg List.length e; simp at this; subst this; simp at h
  unfold pathN
  rw [if_neg hne, datas_all, if_pos ha]
theorem pathN_no {ss : List ByteArray} (h : (decide (0 < ss.length) && allN ss ss.length) = false) : pathN (datas ss) = 1 := by
  unfold pathN
  by_cases hne : datas ss = []
  · rw [if_pos hne]
  · rw [if_neg hne, datas_all]
    have h1 : 0 < ss.length := by
      by_cases h0 : 0 < ss.length
      · exact h0
      · exact absurd (show datas ss = [] by rw [List.length_eq_zero_iff.1 (show ss.length = 0 by omega)]; rfl) hne
    rw [decide_eq_true h1, Bool.true_and] at h
    rw [h]; rfl

def PathRel (w1 : World) (ss : List ByteArray) (f : Nat) (t4 t15 : Value) (wr : World) : Prop :=
  ∃ k : Nat, t15 = .int .i64 (k : Nat) ∧ t4 = .int .i64 (ss.length - 1 + lensTo ss k : Nat) ∧ k ≤ ss.length ∧ f = ss.length - k ∧ Below w1.heap.size w1 wr
def PathPost (L : List Bs) (w : World) (e : Ending) (w' : World) : Prop :=
  ∃ s : ByteArray, e = .returned (.tuple #[.string s, .int .i64 (pathN L : Nat)]) ∧ s.data.toList = pathS L ∧ Below w.heap.size w w'

set_option maxRecDepth 100000 in
set_option maxHeartbeats 1600000 in
theorem path_any (v : Value) (ss : List ByteArray) (hl : ss.length ≤ 1000000) (w : World) (h : StrsAt w v ss) : Calls Tryd.prog 11 #[v] w (PathPost (datas ss) w) := by
  obtain ⟨ao, cap, rfl⟩ := h.form
  have H := Lib.hid h
  clear h
  go_enter Tryd.func11, Tryd.ntmps11
  go_wp2_with fail
  refine (names_all _ ss hl w H.out).mono ?_
  rintro e w1 ⟨rfl, hb⟩
  have HB := Lib.hid hb
  clear hb
  cases hok : (decide (0 < ss.length) && allN ss ss.length) with
  | false =>
    have HP := Lib.hid (pathN_no hok)
    clear hok
    go_wp2_with fail
    go_ret2
    unfold PathPost pathS
    rw [HP.out]
    exact ⟨_, rfl, rfl, HB.out⟩
  | true =>
    rw [Bool.and_eq_true, decide_eq_true_eq] at hok
    obtain ⟨hpos, hall⟩ := hok
    have HP := Lib.hid (pathN_of hpos hall)
    have HJ := Lib.hid (jn_len hpos)
    have HLE := Lib.hid (lensTo_le hall)
    clear hall
    have hp1 : ((ss.length : Int) - 1) = ((ss.length - 1 : Nat) : Int) := by omega
    have hw1 : wrap64 ((ss.length : Int) - 1) = ((ss.length - 1 : Nat) : Int) := by rw [hp1]; exact wrap_in (by omega) (by omega)
    go_wp2_with fail
    go_loopg [4, 15] ss.length (PathRel w ss)
    case atStart => exact ⟨0, rfl, by first | rfl | (rw [hp1]; rfl), Nat.zero_le _, rfl, HB.out⟩
    case round =>
      obtain ⟨k, rfl, rfl, hk, rfl, hbel⟩ := hrel
      have HBEL := Lib.hid hbel
      clear hbel
      have hsk := HLE.out k hk
      by_cases hlt : k < ss.length
      · obtain ⟨b, off, rfl, hbl, hc⟩ := (H.out.below HBEL.out).at_ hlt
        have hii : (k : Int) < (ss.length : Int) := by omega
        have HLS := Lib.hid (lensTo_succ hlt)
        have hsk2 := HLE.out (k + 1) hlt
        rw [HLS.out] at hsk2
        generalize ss.getD k ByteArray.empty = s at *
        generalize hm : ss.length - 1 + lensTo ss k = m at *
        have HM := Lib.hid hm
        have hmb : m + s.size ≤ 100000000 := by omega
        clear hm hsk hsk2
        go_wp2_with fail
        go_roundg (ss.length - (k + 1))
        case measure => omega
        case rel => exact ⟨k + 1, by go_num, by rw [HLS.out, ← Nat.add_assoc, HM.out]; go_num, by omega, rfl, HBEL.out⟩
      · have he : k = ss.length := by omega
        subst he
        have hjl : (jn (datas ss)).length = ss.length - 1 + lensTo ss ss.length := by have := HJ.out; omega
        have HJL := Lib.hid hjl
        rw [hjl] at HP
        clear hjl
        generalize ss.length - 1 + lensTo ss ss.length = m at *
        by_cases hbig : 512 < m
        · have hb2 : (512 : Int) < (m : Int) := by omega
          rw [if_pos hbig] at HP
          go_wp2_with fail
          go_ret2
          unfold PathPost pathS
          rw [HP.out]
          exact ⟨_, rfl, rfl, HBEL.out⟩
        · have hb2 : ¬ (512 : Int) < (m : Int) := by omega
          rw [if_neg hbig] at HP
          obtain ⟨b, off, cap', hv, hbl, hcap, hcells⟩ : ∃ b off cap', Value.slice ao ss.length cap = .slice (some ⟨b, off, none⟩) ss.length cap' ∧ b < wr.heap.size ∧ ss.length ≤ cap' ∧ ∀ i, i < ss.length → wr.cell? ⟨b, off + i, none⟩ = some (.string (ss.getD i ByteArray.empty)) := by
            rcases H.out.below HBEL.out with ⟨_, _, _, h1⟩ | h
            · subst h1; simp at hpos
            · exact h
          injection hv with e1 e2 e3
          subst e1 e3
          have JN := Lib.hid (Tryd.strings_Join b off cap ss ⟨#[47]⟩ wr (fun j x hx => by
            have hj := (List.getElem?_eq_some_iff.1 hx).1
            rw [hcells j hj, List.getD, hx]; rfl) hbl (by omega) hcap (by
              show (jn (datas ss)).length ≤ _
              have := HJL.out; omega))
          clear hcells
          go_wp2_with fail
          refine JN.out.mono ?_
          rintro e w3 ⟨rfl, hb⟩
          have HB3 := Lib.hid (HBEL.out.trans (hb.mono HBEL.out.size))
          clear hb
          go_wp2_with fail
          go_ret2
          unfold PathPost pathS
          rw [HP.out]
          exact ⟨_, rfl, rfl, HB3.out⟩

/-- a slice's first elements -/
theorem StrsAt.take {w : World} {ao : Option Addr} {n cap : Nat} {ss : List ByteArray} (h : StrsAt w (.slice ao n cap) ss) {k : Nat} (hk : k ≤ ss.length) : StrsAt w (.slice ao k cap) (ss.take k) := by
  have hlen : (ss.take k).length = k := by rw [List.length_take]; omega
  rcases h with ⟨ao', cap', e, rfl⟩ | ⟨b, off, cap', e, h2, hc, h3⟩
  · have : k = 0 := by simpa using hk
    subst this
    exact .inl ⟨_, _, rfl, by simp⟩
  · injection e with e1 e2 e3
    subst e1 e3
    refine .inr ⟨b, off, cap, by rw [hlen], h2, by omega, fun i hi => ?_⟩
    rw [hlen] at hi
    rw [h3 i (by omega), List.getD, List.getD, List.getElem?_take, if_pos hi]

set_option maxRecDepth 100000 in
set_option maxHeartbeats 1600000 in
theorem parent_any (s : ByteArray) (m : Int) (w : World) (hm : w.cell? ⟨0, 0, none⟩ = some (.int .i64 m)) : Calls Tryd.prog 19 #[.string s] w fun e w' =>
    ∃ p : ByteArray, e = .returned (.tuple #[.string p, .bool (hasP s.data.toList)]) ∧ p.data.toList = parS s.data.toList ∧ Below w.heap.size w w' := by
  have HPS : Hid (hasP s.data.toList = (decide (partsF s.data.toList = 0) && decide (2 ≤ (pcs 47 s.data.toList).length))) := rfl
  have HPA : Hid (parS s.data.toList = if hasP s.data.toList then jn (pcs 47 s.data.toList).dropLast else []) := rfl
  have HLEN := Lib.hid (fun h => (partsF_zero (l := s.data.toList) h).1)
  have HPL := Lib.hid (pcs_len 47 s.data.toList)
  have PAR := Lib.hid (parts_any s m w hm)
  go_enter Tryd.func19, Tryd.ntmps19
  go_wp2_with fail
  refine PAR.out.mono ?_
  rintro e w1 ⟨v, ss, rfl, hb, h0, h1⟩
  have HB := Lib.hid hb
  clear hb
  by_cases hp : partsF s.data.toList = 0
  · obtain ⟨hat, hss⟩ := h0 hp
    obtain ⟨ao, cap, rfl⟩ := hat.form
    have hsl : ss.length = (pcs 47 s.data.toList).length := by rw [← hss, List.length_map]
    have hl5 : ss.length ≤ 513 := by have := HLEN.out hp; have := HPL.out; omega
    rw [hp]
    have HAT := Lib.hid hat
    have HSS := Lib.hid hss
    by_cases h2 : 2 ≤ ss.length
    · have HH : Hid (hasP s.data.toList = true) := by unfold Hid; rw [HPS.out, decide_eq_true hp, ← hsl, decide_eq_true h2]; rfl
      have HQ : Hid (parS s.data.toList = jn (pcs 47 s.data.toList).dropLast) := by unfold Hid; rw [HPA.out, if_pos HH.out]
      have hlt : ¬ (ss.length : Int) < 2 := by omega
      have hp1 : ((ss.length : Int) - 1) = ((ss.length - 1 : Nat) : Int) := by omega
      have hw1 : wrap64 ((ss.length : Int) - 1) = ((ss.length - 1 : Nat) : Int) := by rw [hp1]; exact wrap_in (by omega) (by omega)
      have hcapl : (ss.length : Int) - 1 ≤ (cap : Int) := by
        rcases hat with ⟨_, _, _, e⟩ | ⟨_, _, _, e, _, hc, _⟩
        · subst e; simp at h2
        · injection e with _ _ e3; subst e3; omega
      have hdl : (ss.take (ss.length - 1)) = ss.dropLast := (List.dropLast_eq_take).symm
      have hjl : (jn (pcs 47 s.data.toList).dropLast).length ≤ 512 := by
        have := (pathN_zero (par_parts HH.out).1).2.2
        exact this
      have htk := hat.take (k := ss.length - 1) (by omega)
      obtain ⟨b, off, cap', hv, hbl, hcap, hcells⟩ : ∃ b off cap', Value.slice ao (ss.length - 1) cap = .slice (some ⟨b, off, none⟩) (ss.take (ss.length - 1)).length cap' ∧ b < w1.heap.size ∧ (ss.take (ss.length - 1)).length ≤ cap' ∧ ∀ i, i < (ss.take (ss.length - 1)).length → w1.cell? ⟨b, off + i, none⟩ = some (.string ((ss.take (ss.length - 1)).getD i ByteArray.empty)) := by
        rcases htk with ⟨_, _, _, e⟩ | h
        · have := congrArg List.length e; rw [List.length_take] at this; simp at this; omega
        · exact h
      have hlk : (ss.take (ss.length - 1)).length = ss.length - 1 := by rw [List.length_take]; omega
      rw [hlk] at hv hcap hcells
      injection hv with e1 e2 e3
      subst e1 e3
      have hmp : (ss.take (ss.length - 1)).map (·.data.toList) = (pcs 47 s.data.toList).dropLast := by rw [hdl, ← hss, List.map_dropLast]
      have JN := Tryd.strings_Join b off cap (ss.take (ss.length - 1)) ⟨#[47]⟩ w1 (fun j x hx => by
            have hj := (List.getElem?_eq_some_iff.1 hx).1
            rw [hcells j (by rw [← hlk]; exact hj), List.getD, hx]; rfl) hbl (by omega) (by omega) (by
              rw [hmp]
              show (jn (pcs 47 s.data.toList).dropLast).length ≤ _
              omega)
      rw [hlk, hmp] at JN
      have JN := Lib.hid JN
      clear hcells hmp htk hat hss h0 h1 hdl hjl hp hsl
      go_wp2_with fail
      refine JN.out.mono ?_
      rintro e w3 ⟨rfl, hb⟩
      have HB3 := Lib.hid (HB.out.trans (hb.mono HB.out.size))
      clear hb
      go_wp2_with fail
      go_ret2
      rw [HH.out, HQ.out]
      exact ⟨_, rfl, rfl, HB3.out⟩
    · have HH : Hid (hasP s.data.toList = false) := by unfold Hid; rw [HPS.out, ← hsl, decide_eq_false h2, Bool.and_false]
      have HQ : Hid (parS s.data.toList = []) := by unfold Hid; rw [HPA.out, if_neg (by rw [HH.out]; decide)]
      have hlt : (ss.length : Int) < 2 := by omega
      clear hat hss h0 h1 hp hsl
      go_wp2_with fail
      go_ret2
      rw [HH.out, HQ.out]
      exact ⟨⟨#[]⟩, rfl, rfl, HB.out⟩
  · obtain rfl := h1 hp
    have HH : Hid (hasP s.data.toList = false) := by unfold Hid; rw [HPS.out, decide_eq_false hp]; rfl
    have HQ : Hid (parS s.data.toList = []) := by unfold Hid; rw [HPA.out, if_neg (by rw [HH.out]; decide)]
    have hpb : ((partsF s.data.toList : Int) != 0) = true := by rw [bne_iff_ne]; omega
    clear h0 h1 hp
    go_wp2_with fail
    go_ret2
    rw [HH.out, HQ.out]
    exact ⟨⟨#[]⟩, rfl, rfl, HB.out⟩
end Go.Proofs.YtlpglabhjbfjgaaDoor
