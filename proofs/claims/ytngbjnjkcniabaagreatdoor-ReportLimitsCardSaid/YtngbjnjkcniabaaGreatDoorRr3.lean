/- The walk over the reference's Parse. -/
import Derived.Test.YtngbjnjkcniabaaGreatDoorRr2
namespace Go.Proofs.YtngbjnjkcniabaaGreatDoor
open Go.RowKit

def RpPost (s : List UInt8) (w : World) (e : Ending) (w' : World) : Prop :=
  ∃ v qs, e = .returned (.tuple #[v, .int .i64 (((parseF s).2.1 : Nat) : Int), .int .i64 (((parseF s).2.2 : Nat) : Int)]) ∧ TrRow w' w.heap.size v qs ∧ qs.map qv = (parseF s).1.map rv ∧ Below w.heap.size w w'

def RPRel (w1 : World) (s : List UInt8) (f : Nat) (tout tat tn : Value) (wr : World) : Prop :=
  ∃ (k : Nat) (acc : List Qu) (A : List TR) (g : Nat), tat = .int .i64 (k : Nat) ∧ tn = .int .i64 ((acc.length + 1 : Nat) : Int) ∧ k ≤ s.length ∧ acc.length ≤ k ∧ f = s.length - k ∧ acc.map qv = A.map rv ∧ parseTo g (acc.length + 1) A (s.drop k) = parseF s ∧ (s.drop k).length < g ∧
    TrRow wr w1.heap.size tout acc ∧ Below w1.heap.size w1 wr

theorem rp_fail {s : List UInt8} {n e : Nat} {w w' : World} (h : parseF s = ([], n, e)) (hb : Below w.heap.size w w') {v1 v2 : Value} (h1 : v1 = .int .i64 ((n : Nat) : Int)) (h2 : v2 = .int .i64 ((e : Nat) : Int)) : RpPost s w (.returned (.tuple #[.slice none 0 0, v1, v2])) w' :=
  ⟨.slice none 0 0, [], by rw [h, h1, h2], ⟨rfl, .inl ⟨rfl, rfl⟩⟩, by rw [h]; rfl, hb⟩

set_option maxRecDepth 100000 in
set_option maxHeartbeats 6400000 in
theorem rparse_any (s : ByteArray) (hsz : s.size ≤ 900000) (w : World) : Calls Tryz.prog 11 #[.string s] w (RpPost s.data.toList w) := by
  have HS := Lib.hid (Lib.size_eq s)
  obtain ⟨i41, hi41, hz41, hn41, hy41⟩ := Tryz.info45'
  have HI := Lib.hid hi41
  clear hi41
  go_enter Tryz.func11, Tryz.ntmps11
  go_wp2_with fail
  go_loopg [5, 6, 7] s.data.toList.length (RPRel w s.data.toList)
  case atStart => exact ⟨0, [], [], s.data.toList.length + 1, rfl, rfl, Nat.zero_le _, Nat.le_refl _, rfl, rfl, rfl, Nat.lt_succ_self _, World.ownsRow_nil _ _ _ _, Below.refl _ _⟩
  case round =>
    obtain ⟨k, acc, A, g, rfl, rfl, hk, hak, rfl, hA, hp, hg, hrow, hbel⟩ := hrel
    rw [← HS.out] at hk
    have HA := Lib.hid hA
    have HP := Lib.hid hp
    have HG := Lib.hid hg
    have HR := Lib.hid hrow
    have HB := Lib.hid hbel
    have hbs := hbel.size
    obtain ⟨ro, rcap, rfl⟩ := ownsRow_form hrow
    clear hA hp hg hrow hbel
    by_cases hlt : k < s.size
    · have hii : (k : Int) < (s.size : Int) := by omega
      have EN := Lib.hid (end_any s k (by omega) (by omega) wr)
      have HNE : Hid (s.data.toList.drop k ≠ []) := fun h => by
        have := congrArg List.length h
        rw [List.length_drop, ← HS.out] at this
        simp at this
        omega
      obtain ⟨g', rfl⟩ : ∃ g', g = g' + 1 := ⟨g - 1, by have := HG.out; omega⟩
      have HPS := Lib.hid HP.out
      unfold parseTo at HPS
      rw [if_neg HNE.out] at HPS
      have HE : Hid (endX s.data.toList k = if Lib.index (s.data.toList.drop k) [10] = -1 then -1 else Lib.index (s.data.toList.drop k) [10] + k) := rfl
      have hix := Lib.index_ge (s.data.toList.drop k) [10]
      have HIC := Lib.hid (fun h => index_cut (c := 10) (l := s.data.toList.drop k) h)
      go_wp2_with fail
      refine EN.out.mono ?_
      rintro e w2 ⟨rfl, rfl⟩
      clear EN
      by_cases hbig : 4096 < acc.length + 1
      · rw [if_pos hbig] at HPS
        have hbi : (4096 : Int) < ((acc.length + 1 : Nat) : Int) := by omega
        generalize endX s.data.toList k = ex at *
        clear hbig HE HIC hix
        as_aux_lemma =>
        go_wp2_with fail
        go_ret3
        exact rp_fail HPS.out.symm HB.out (by first | rfl | go_num) rfl
      · rw [if_neg hbig] at HPS
        have hbi : ¬ (4096 : Int) < ((acc.length + 1 : Nat) : Int) := by omega
        have hal : acc.length < 4096 := by omega
        clear hbig
        by_cases hno : Lib.index (s.data.toList.drop k) [10] < 0
        · have HX : Hid (endX s.data.toList k = -1) := by unfold Hid; rw [HE.out, if_pos (by omega)]
          rw [if_pos hno] at HPS
          rw [HX.out]
          clear hno HE HIC hix HX
          as_aux_lemma =>
          go_wp2_with fail
          go_ret3
          exact rp_fail HPS.out.symm HB.out (by first | rfl | go_num) rfl
        · obtain ⟨j, hj⟩ : ∃ j : Nat, Lib.index (s.data.toList.drop k) [10] = (j : Int) := ⟨(Lib.index (s.data.toList.drop k) [10]).toNat, by omega⟩
          rw [if_neg hno, hj] at HPS
          have HX : Hid (endX s.data.toList k = ((k + j : Nat) : Int)) := by unfold Hid; rw [HE.out, if_neg (by omega), hj]; omega
          have hcut := HIC.out (by omega)
          rw [hj, Int.toNat_natCast] at hcut
          rw [Int.toNat_natCast] at HPS
          have hjl : k + j < s.size := by
            have := congrArg List.length hcut
            rw [List.length_append, List.length_cons, List.length_take, List.length_drop, List.length_drop, List.length_drop, ← HS.out] at this
            omega
          rw [HX.out]
          have HEX0 : Hid ((s.extract k (k + j)).data.toList = (s.data.toList.drop k).take j) := by unfold Hid; rw [Lib.extract_eq, Nat.add_sub_cancel_left]
          have HDR0 : Hid ((s.data.toList.drop k).drop (j + 1) = s.data.toList.drop (k + j + 1)) := by unfold Hid; rw [List.drop_drop, Nat.add_assoc]
          rw [← HEX0.out, HDR0.out] at HPS
          have hkj : k ≤ k + j := by omega
          clear hno HE HIC hix HX hj hcut HEX0 HDR0
          generalize k + j = t at *
          have hji : (t : Int) ≤ (s.size : Int) := by omega
          have hkji : (k : Int) ≤ (t : Int) := by omega
          have hxs : (s.extract k t).size ≤ 1000000 := by rw [Lib.size_eq, Lib.extract_eq, List.length_take, List.length_drop, ← HS.out]; omega
          have ON := Lib.hid (one_any (s.extract k t) hxs w2)
          go_wp2_with fail
          generalize s.extract k t = x at *
          refine ON.out.mono ?_
          rintro e w3 ⟨nm, rfl, hnm, hb⟩
          have HB3 := Lib.hid (HB.out.trans (hb.mono hbs))
          have HR3 := Lib.hid (ownsRow_below HR.out hb)
          obtain ⟨er, st, ti, rn, hone⟩ : ∃ er st ti rn, oneF x.data.toList = (er, (rn, st, ti)) := ⟨_, _, _, _, rfl⟩
          rw [hone] at hnm HPS ⊢
          have HNM := Lib.hid hnm
          clear hone hnm hb ON HR HB
          dsimp only at HPS HNM ⊢
          obtain ⟨W4, hW4⟩ : ∃ W, w3.alloc (.cells #[.string nm, .int .i64 ((st : Nat) : Int), .int .i64 ((ti : Nat) : Int)] 41 (0, 0)) = W := ⟨_, rfl⟩
          have HK4 : Hid (W4.heap[w3.heap.size]? = some (.cells #[.string nm, .int .i64 ((st : Nat) : Int), .int .i64 ((ti : Nat) : Int)] 41 (0, 0))) := by unfold Hid; rw [← hW4]; exact hp_new rfl
          have hb4 : Below w3.heap.size w3 W4 := by rw [← hW4]; exact (Below.refl _ _).alloc (Nat.le_refl _) _
          have HB4 := Lib.hid (HB3.out.trans (hb4.mono HB3.out.size))
          have HR4 := Lib.hid (ownsRow_below HR3.out hb4)
          have c0 : W4.cell? ⟨w3.heap.size, 0, none⟩ = some (.string nm) := cell_of_blk HK4.out 0
          have c1 : W4.cell? ⟨w3.heap.size, 1, none⟩ = some (.int .i64 ((st : Nat) : Int)) := cell_of_blk HK4.out 1
          have c2 : W4.cell? ⟨w3.heap.size, 2, none⟩ = some (.int .i64 ((ti : Nat) : Int)) := cell_of_blk HK4.out 2
          have hs4 := HB4.out.size
          clear hb4 HB3 HR3
          cases er with
          | succ er =>
            have t1 : (((er + 1 : Nat) : Int) == 0) = false := by rw [beq_eq_false_iff_ne]; omega
            have t2 : (((er + 1 : Nat) : Int) != 0) = true := by rw [bne_iff_ne]; omega
            have t3 : (((er : Nat) : Int) + 1 == 0) = false := by rw [beq_eq_false_iff_ne]; omega
            have t4 : (((er : Nat) : Int) + 1 != 0) = true := by rw [bne_iff_ne]; omega
            as_aux_lemma =>
            go_wp2_with fail
            go_ret3
            exact rp_fail HPS.out.symm HB4.out (by first | rfl | go_num) (by first | rfl | go_num)
          | zero =>
            have HQ := Lib.hid (has_any (.slice ro acc.length rcap) acc nm (by omega) W4 (TrRow.at HR4.out))
            rw [names_eq HA.out, HNM.out] at HQ
            have HPT := Lib.hid (show (if rn ∈ A.map (·.1) then ([], acc.length + 1, 7) else parseTo g' (acc.length + 1 + 1) (A ++ [(rn, st, ti)]) (List.drop (t + 1) s.data.toList)) = parseF s.data.toList from HPS.out)
            clear HPS
            by_cases hin : rn ∈ A.map (·.1)
            · rw [decide_eq_true hin] at HQ
              rw [if_pos hin] at HPT
              clear hin
              as_aux_lemma =>
              go_wp2_with fail
              refine HQ.out.mono ?_
              rintro e w5 ⟨rfl, rfl⟩
              clear HQ
              go_wp2_with fail
              go_ret3
              exact rp_fail HPT.out.symm HB4.out (by first | rfl | go_num) (by first | rfl | go_num)
            · rw [decide_eq_false hin] at HQ
              rw [if_neg hin] at HPT
              clear hin
              as_aux_lemma =>
              go_wp2_with fail
              refine HQ.out.mono ?_
              rintro e w5 ⟨rfl, rfl⟩
              clear HQ
              have q1 : IntKind.i64.wrap ((t : Int) + 1) = ((t + 1 : Nat) : Int) := by rw [IntWalk.i64_in _ (by omega)]; omega
              go_wp2_with (at_builtin; refine wpList_append2 rfl _ _ 23 rfl w.heap.size 41 i41 (.agg #[.string ByteArray.empty, .int .i64 0, .int .i64 0]) 3 32 Tryz.underlying23 ⟨HI.out, hz41, hn41, hy41⟩ rfl (by decide) _ _ _ rfl (HR4.out.alloc _) ⟨w5.heap.size, 0, none⟩ 1 1 [.string nm, .int .i64 ((st : Nat) : Int), .int .i64 ((ti : Nat) : Int)] rfl rfl (cells_newAt rfl _ 41 (0, 0)) rfl (by unfold maxLen; omega) (by omega) (by simp; omega) ?_)
              intro v' w6 hown hgrow hwh
              obtain ⟨ao', cap', rfl⟩ := ownsRow_form hown
              have HOWN := Lib.hid hown
              have HBG := Lib.hid ((HB4.out.alloc hs4 (.cells #[.string nm, .int .i64 ((st : Nat) : Int), .int .i64 ((ti : Nat) : Int)] 41 (0, 0))).grown hgrow (by simp; omega) (fun j hj => (HR4.out.lt j hj).1))
              clear hown hgrow hwh
              go_wp2_with fail
              go_roundg (s.data.toList.length - (t + 1))
              case measure => have := HS.out; omega
              case rel =>
                refine ⟨t + 1, acc ++ [⟨nm, ((st : Nat) : Int), ((ti : Nat) : Int)⟩], A ++ [(rn, st, ti)], g', by first | rfl | go_num, ?_, by have := HS.out; omega, ?_, rfl, ?_, ?_, ?_, ?_, HBG.out⟩
                · rw [List.length_append]; go_num
                · rw [List.length_append]; simp; omega
                · rw [List.map_append, List.map_append, HA.out]
                  show _ ++ [(nm.data.toList, _, _)] = _ ++ [rv (rn, st, ti)]
                  rw [HNM.out]; rfl
                · rw [List.length_append]; show parseTo g' (acc.length + 1 + 1) _ _ = _; exact HPT.out
                · have h1 := HG.out; have h2 := HS.out; rw [List.length_drop] at h1 ⊢; omega
                · unfold TrRow
                  rw [List.length_append, List.flatMap_append]
                  have := HOWN.out
                  simpa [Qu.cells] using this
    · have hii : ¬ (k : Int) < (s.size : Int) := by omega
      have HF : Hid (parseF s.data.toList = (A, 0, 0)) := by
        unfold Hid
        rw [← HP.out, List.drop_of_length_le (by rw [← HS.out]; omega)]
        cases g with
        | zero => rfl
        | succ g => rw [parseTo, if_pos rfl]
      as_aux_lemma =>
      go_wp2_with fail
      go_ret3
      exact ⟨_, acc, by rw [HF.out]; rfl, HR.out, by rw [HF.out]; exact HA.out, HB.out⟩
end Go.Proofs.YtngbjnjkcniabaaGreatDoor
