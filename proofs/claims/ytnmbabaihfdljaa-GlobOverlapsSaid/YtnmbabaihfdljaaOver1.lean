/- The walk over package glob's Overlaps. -/
import Derived.Test.YtnmbabaihfdljaaGraph
import Derived.StillTailTactics
import Derived.Deep.CutBlock
namespace Go.Proofs.Ytnmbabaihfdljaa
open Go.RowKit
open Bs

theorem flatO_len (O : List (Nat × Nat)) : (flatO O).length = O.length * 2 := by
  induction O with
  | nil => rfl
  | cons q O ih => simp only [flatO, List.flatMap_cons, List.length_append, List.length_cons, List.length_nil] at ih ⊢; omega

theorem ownsRow_cap {w : World} {base : Nat} {e : TypeId} {size n m cap : Nat} {ao : Option Addr} {xs : List Value} (h : w.ownsRow base e size (.slice ao m cap) n xs) : n ≤ cap := by
  rcases h.2 with ⟨h1, rfl⟩ | ⟨g, cap', cur, hv, _, _, hn, _⟩
  · omega
  · injection hv with e1 e2 e3; omega

theorem SeenOpen.drew {w1 w : World} {bs bo bm : Nat} {S O : List (Nat × Nat)} {ov : Value} (h : SeenOpen w1 w bs bo bm S ov O) : SeenOpen w1 w.drew bs bo bm S ov O :=
  ⟨h.hs, h.ho, h.hm, h.row, h.n1, h.n2, h.n3, h.d1, h.d2, h.d3, h.l1, h.l2, h.l3, h.bel.drew, h.sz⟩
theorem SeenOpen.below {w1 w w' : World} {bs bo bm : Nat} {S O : List (Nat × Nat)} {ov : Value} (h : SeenOpen w1 w bs bo bm S ov O) (hb : Below w.heap.size w w') : SeenOpen w1 w' bs bo bm S ov O :=
  ⟨(hb.block _ (Array.getElem?_eq_some_iff.1 h.hs).1).trans h.hs, (hb.block _ (Array.getElem?_eq_some_iff.1 h.ho).1).trans h.ho, MSet_of_block h.hm (hb.block _ (MSet_lt h.hm)), ownsRow_below h.row hb, h.n1, h.n2, h.n3, h.d1, h.d2, h.d3, h.l1, h.l2, h.l3, h.bel.trans (hb.mono h.sz), Nat.le_trans h.sz hb.size⟩
theorem SeenOpen.pop {w1 w : World} {bs bo bm g n cap : Nat} {S O' : List (Nat × Nat)} {ov : Value} {O : List (Nat × Nat)} (h : SeenOpen w1 w bs bo bm S (.slice (some ⟨g, 0, none⟩) n cap) O)
    (hr : w.ownsRow w1.heap.size 55 2 (.slice (some ⟨g, 0, none⟩) O'.length cap) O'.length (flatO O')) (hov : ov = .slice (some ⟨g, 0, none⟩) O'.length cap) :
    SeenOpen w1 (w.setCell ⟨bo, 0, none⟩ ov) bs bo bm S ov O' := by
  subst hov
  have hW := wrote_setCell h.ho 0 (.slice (some ⟨g, 0, none⟩) O'.length cap)
  have hn2 := h.n2
  exact ⟨(hW.block _ h.d1).trans h.hs, hW.at_, MSet_of_block h.hm (hW.block _ h.d3.symm), ownsRow_wrote2 hr hW hn2, h.n1, h.n2, h.n3, h.d1, h.d2, h.d3, h.l1, h.l2, h.l3, h.bel.trans (hW.below h.l2), by rw [hW.size]; exact h.sz⟩

theorem addAll_len : ∀ (l S O : List (Nat × Nat)), S.length ≤ (addAll (S, O) l).1.length := by
  intro l
  induction l with
  | nil => intro S O; exact Nat.le_refl _
  | cons p l ih =>
    intro S O
    have h1 : S.length ≤ (addS S p).length := by unfold addS; split <;> simp
    exact Nat.le_trans h1 (ih _ _)

theorem addO_len (S O : List (Nat × Nat)) (p : Nat × Nat) : (addO S O p).length ≤ O.length + 1 := by
  unfold addO; split <;> simp

theorem absE_nil {L : List El} {k : Nat} (hk : k < L.length) : (absE L).getD k nilA = L[k].abs := absE_getD hk

def ElF (wx : World) (g k : Nat) (E : El) : Prop :=
  wx.cell? ⟨g, k * 7, none⟩ = some (.int .u64 (wd E.set 0 : Nat)) ∧ wx.cell? ⟨g, k * 7 + 1, none⟩ = some (.int .u64 (wd E.set 1 : Nat)) ∧ wx.cell? ⟨g, k * 7 + 2, none⟩ = some (.int .u64 (wd E.set 2 : Nat)) ∧
  wx.cell? ⟨g, k * 7 + 3, none⟩ = some (.int .u64 (wd E.set 3 : Nat)) ∧ wx.cell? ⟨g, k * 7 + 4, none⟩ = some (.bool E.many)

theorem ElF_of {w2 : World} {base : Nat} {ao : Option Addr} {cap : Nat} {L : List El} (h : w2.ownsRow base 45 7 (.slice ao L.length cap) L.length (L.flatMap El.cells)) {k : Nat} (hk : k < L.length) :
    ∃ g, ao = some ⟨g, 0, none⟩ ∧ ∀ wx, Below w2.heap.size w2 wx → ElF wx g k L[k] := by
  obtain ⟨g, c, hv, _, hg, k0, k1, k2, k3, k4, _, _⟩ := el_at h hk
  injection hv with e1 e2 e3
  refine ⟨g, e1, fun wx hb => ⟨?_, ?_, ?_, ?_, ?_⟩⟩
  · rw [hb.cell (p := ⟨g, k * 7, none⟩) hg]; exact k0
  · rw [hb.cell (p := ⟨g, k * 7 + 1, none⟩) hg]; exact k1
  · rw [hb.cell (p := ⟨g, k * 7 + 2, none⟩) hg]; exact k2
  · rw [hb.cell (p := ⟨g, k * 7 + 3, none⟩) hg]; exact k3
  · rw [hb.cell (p := ⟨g, k * 7 + 4, none⟩) hg]; exact k4

def OverPost (a b : List UInt8) (w : World) (e : Ending) (w' : World) : Prop :=
  ∃ r : Bool, e = .returned (.bool r) ∧ Below w.heap.size w w' ∧
    (if 4096 < a.length ∨ 4096 < b.length then r = false else match els a, els b with
      | some L, some M => (r = true ↔ Reach (absE L) (absE M) (L.length, M.length))
      | _, _ => r = false)

def OvRel (w2 : World) (A B : List AE) (bs bo bm : Nat) (f : Nat) (t11 : Value) (wr : World) : Prop :=
  t11 = .bool false ∧ ∃ S O ov, Inv A B S O ∧ SeenOpen w2 wr bs bo bm S ov O ∧ O.length ≤ S.length ∧ f + 2 * S.length = 2 * ((A.length + 1) * (B.length + 1)) + O.length

set_option maxRecDepth 100000 in
set_option maxHeartbeats 16000000 in
theorem over_any (a b : ByteArray) (ha : a.size ≤ maxLen) (hb : b.size ≤ maxLen) (w : World) :
    Calls Try.prog 19 #[.string a, .string b] w (OverPost a.data.toList b.data.toList w) := by
  go_enter Try.func19, Try.ntmps19
  go_wp2_with fail
  go_step3
  go_wp2_with fail
  refine (parse_any a ha w).mono ?_
  rintro e w1 ⟨hb1, hq1⟩
  obtain ⟨v1, e1, rfl, hv1⟩ : ∃ (v1 : Value) (e1 : Nat), e = .returned (.tuple #[v1, .int .i64 (e1 : Nat)]) ∧ (e1 ≠ 0 ∧ (4096 < a.data.toList.length ∨ els a.data.toList = none) ∨ e1 = 0 ∧ ¬ 4096 < a.data.toList.length ∧ ∃ L, els a.data.toList = some L ∧ L.length ≤ 4096 ∧ w1.ownsRow w.heap.size 45 7 v1 L.length (L.flatMap El.cells)) := by
    by_cases h : 4096 < a.data.toList.length
    · rw [if_pos h] at hq1; exact ⟨_, 3, hq1, .inl ⟨by omega, .inl h⟩⟩
    · rw [if_neg h] at hq1
      cases he : els a.data.toList with
      | none => rw [he] at hq1; exact ⟨_, 5, hq1, .inl ⟨by omega, .inr rfl⟩⟩
      | some L => rw [he] at hq1; obtain ⟨v, h1, h2, h3⟩ := hq1; exact ⟨v, 0, h1, .inr ⟨rfl, h, L, rfl, by omega, h2⟩⟩
  have HV1 := Lib.hid hv1
  have HB1 := Lib.hid hb1
  have hz1 := hb1.size
  clear hb1 hq1 hv1
  go_wp2_with fail
  refine (parse_any b hb w1).mono ?_
  rintro e w2 ⟨hb2, hq2⟩
  obtain ⟨v2, e2, rfl, hv2⟩ : ∃ (v2 : Value) (e2 : Nat), e = .returned (.tuple #[v2, .int .i64 (e2 : Nat)]) ∧ (e2 ≠ 0 ∧ (4096 < b.data.toList.length ∨ els b.data.toList = none) ∨ e2 = 0 ∧ ¬ 4096 < b.data.toList.length ∧ ∃ L, els b.data.toList = some L ∧ L.length ≤ 4096 ∧ w2.ownsRow w1.heap.size 45 7 v2 L.length (L.flatMap El.cells)) := by
    by_cases h : 4096 < b.data.toList.length
    · rw [if_pos h] at hq2; exact ⟨_, 3, hq2, .inl ⟨by omega, .inl h⟩⟩
    · rw [if_neg h] at hq2
      cases he : els b.data.toList with
      | none => rw [he] at hq2; exact ⟨_, 5, hq2, .inl ⟨by omega, .inr rfl⟩⟩
      | some L => rw [he] at hq2; obtain ⟨v, h1, h2, h3⟩ := hq2; exact ⟨v, 0, h1, .inr ⟨rfl, h, L, rfl, by omega, h2⟩⟩
  have HV2 := Lib.hid hv2
  have HB2 := Lib.hid (HB1.out.trans (hb2.mono hz1))
  have HB12 := Lib.hid hb2
  have hz2 := hb2.size
  clear hb2 hq2 hv2
  by_cases hbad : e1 ≠ 0 ∨ e2 ≠ 0
  · have HF : Hid (∀ r : Bool, r = false → (if 4096 < a.data.toList.length ∨ 4096 < b.data.toList.length then r = false else match els a.data.toList, els b.data.toList with
      | some L, some M => (r = true ↔ Reach (absE L) (absE M) (L.length, M.length))
      | _, _ => r = false)) := by
      intro r hr
      split
      · exact hr
      · rename_i hl
        have : els a.data.toList = none ∨ els b.data.toList = none := by
          rcases hbad with h | h
          · rcases HV1.out with ⟨_, h' | h'⟩ | ⟨h', _⟩
            · exact (hl (.inl h')).elim
            · exact .inl h'
            · exact (h h').elim
          · rcases HV2.out with ⟨_, h' | h'⟩ | ⟨h', _⟩
            · exact (hl (.inr h')).elim
            · exact .inr h'
            · exact (h h').elim
        rcases this with h | h <;> rw [h]
        · exact hr
        · cases els a.data.toList <;> exact hr
    have hcs : (((e1 : Nat) : Int) != 0) = true ∨ ((((e1 : Nat) : Int) != 0) = false ∧ (((e2 : Nat) : Int) != 0) = true) := by
      by_cases h : e1 = 0
      · right; refine ⟨by simp [h], by rw [bne_iff_ne]; omega⟩
      · left; rw [bne_iff_ne]; omega
    clear hbad
    rcases hcs with h | ⟨h, h'⟩
    all_goals
      go_wp2
      go_ret
      exact ⟨false, rfl, HB2.out, HF.out false rfl⟩
  · have h1 : e1 = 0 := by omega
    have h2 : e2 = 0 := by omega
    subst h1
    subst h2
    rcases HV1.out with ⟨h, _⟩ | ⟨_, hla, L, heL, hL, hrowL⟩
    · exact (h rfl).elim
    rcases HV2.out with ⟨h, _⟩ | ⟨_, hlb, M, heM, hM, hrowM⟩
    · exact (h rfl).elim
    have HF : Hid (∀ r : Bool, (r = true ↔ Reach (absE L) (absE M) (L.length, M.length)) → ∀ w', Below w.heap.size w w' → OverPost a.data.toList b.data.toList w (.returned (.bool r)) w') := by
      intro r hr w' hw'
      refine ⟨r, rfl, hw', ?_⟩
      rw [if_neg (by rintro (h | h) <;> omega), heL, heM]
      exact hr
    obtain ⟨ao1, cap1, hv1⟩ := ownsRow_form hrowL
    obtain ⟨ao2, cap2, hv2⟩ := ownsRow_form hrowM
    subst hv1
    subst hv2
    have HRL := Lib.hid (ownsRow_below hrowL HB12.out)
    have HRM := Lib.hid hrowM
    clear hbad hrowL hrowM HV1 HV2 HB12
    have HMS : Hid (MSet (w2.alloc (.map #[] 0)) w2.heap.size []) := ⟨#[], 0, hp_new rfl, rfl⟩
    have hmm := @run_makeMap Try.prog
    go_wp2_with (refine wpList_insert55 rfl _ _ _ rfl w2.heap.size rfl (0, 0) rfl rfl [] HMS.out (by simp) ?_; intro o' w3 hW3 hm3; have HW3 := Lib.hid hW3; have HM3 := Lib.hid hm3; have hz3 : w3.heap.size = w2.heap.size + 1 := (by rw [hW3.size]; simp); have HZ3 := Lib.hid hz3; clear hW3 hm3 hz3)
    refine (show ∀ wx, SeenOpen w2 wx w3.heap.size (w3.heap.size + 1 + 1) w2.heap.size [(0, 0)] (.slice (some ⟨w3.heap.size + 1, 0, none⟩) 1 1) [(0, 0)] → Code.wp Try.prog _ _ _ wx from ?_) _ ?_
    rotate_left
    · have hz := HZ3.out
      have hb3 : Below w2.heap.size w2 w3 := ((Below.refl _ _).alloc (Nat.le_refl _) _).trans (HW3.out.below (Nat.le_refl _))
      refine ⟨(hp_old (by simp; omega)).trans ((hp_old (by simp)).trans (hp_new rfl)), hp_new (by simp), ?_, ⟨rfl, .inr ⟨w3.heap.size + 1, 1, _, rfl, by omega, (hp_old (by simp)).trans (hp_new (by simp)), Nat.le_refl _, by decide, rfl, rfl⟩⟩, ?_, ?_, ?_, by omega, by omega, by omega, by omega, by omega, by omega, ((hb3.alloc (by omega) _).alloc (by simp; omega) _).alloc (by simp; omega) _, by simp; omega⟩
      · have := HM3.out
        exact MSet_of_block (MSet_of_block (MSet_of_block this (hp_old (by omega))) (hp_old (by simp; omega))) (hp_old (by simp; omega))
      · simp [Value.ownBlock]
      · simp [Value.ownBlock]
      · simp [Value.ownBlock]; omega
    · intro wx hso
      have HSO := Lib.hid hso
      have hbs3 : w2.heap.size ≤ w3.heap.size := by have := HZ3.out; omega
      clear hso HW3 HM3 hmm HMS
      generalize w3.heap.size + 1 + 1 = bo at *
      generalize w3.heap.size = bs at *
      clear HZ3
      have hAl : (absE L).length = L.length := by simp [absE]
      have hBl : (absE M).length = M.length := by simp [absE]
      have HAL := Lib.hid hAl
      have HBL := Lib.hid hBl
      clear hAl hBl
      go_step3
      go_wp2_with fail
      go_loopg [11] (2 * (((absE L).length + 1) * ((absE M).length + 1)) - 1) (OvRel w2 (absE L) (absE M) bs bo w2.heap.size)
      case atStart =>
        refine ⟨rfl, [(0, 0)], [(0, 0)], _, Inv.start _ _, HSO.out, by simp, ?_⟩
        have : 1 ≤ ((absE L).length + 1) * ((absE M).length + 1) := Nat.mul_pos (by omega) (by omega)
        generalize ((absE L).length + 1) * ((absE M).length + 1) = X at *
        show 2 * X - 1 + 2 * 1 = 2 * X + 1
        omega
      case round =>
        obtain ⟨rfl, S, O, ov, hinv, hso, hOS, hms⟩ := hrel
        have hX : ((absE L).length + 1) * ((absE M).length + 1) ≤ 4097 * 4097 := Nat.mul_le_mul (by have := HAL.out; omega) (by have := HBL.out; omega)
        have hSX := grid_le hinv.nd hinv.bd
        have hOb : O.length ≤ 16785409 := by omega
        have HOS := Lib.hid hOS
        clear hX hSX hOS
        have HINV := Lib.hid hinv
        have HSO1 := Lib.hid hso
        have HMS := Lib.hid hms
        obtain ⟨ao, cap, hov⟩ := ownsRow_form hso.row
        subst hov
        have co : wr.cell? ⟨bo, 0, none⟩ = some (.slice ao O.length cap) := by rw [cell_of_blk hso.ho]; rfl
        have fo := free_of_blk hso.ho 0
        have HWR := Lib.hid (HB2.out.trans (hso.bel.mono (by omega)))
        clear hinv hso hms
        by_cases hO : O = []
        · subst hO
          have HNO := Lib.hid (HINV.out.no)
          go_wp2
          try rw [Exit.noGoto_ret]
          go_ret
          refine HF.out false ?_ _ HWR.out
          have := HNO.out
          rw [HAL.out, HBL.out] at this
          simp [this]
        · obtain ⟨O', p, hOp⟩ : ∃ O' p, O = O' ++ [p] := ⟨O.dropLast, O.getLast hO, (List.dropLast_concat_getLast hO).symm⟩
          subst hOp
          clear hO
          have hlO : (O' ++ [p]).length = O'.length + 1 := by simp
          have hrow0 := HSO1.out.row
          rw [hlO] at co hrow0 hOb
          obtain ⟨g, c0, hv, hbg, hgw, _, hcs⟩ := ownsRow_at (f := fun q : Nat × Nat => [Value.int .i64 (q.1 : Nat), .int .i64 (q.2 : Nat)]) hrow0 (fun _ => rfl) (by decide) (k := O'.length) (by simp)
          injection hv with e1 e2 e3
          subst e1
          subst e3
          rw [hlO] at HSO1
          simp only [List.getElem_concat_length] at hcs
          have g0 := hcs 0 _ rfl
          have g1 := hcs 1 _ rfl
          simp only [Nat.add_zero] at g0
          have hpop := ownsRow_pop (xs := flatO O') (last := flatO [p]) (flatO_len O') (by rw [← hlO]; have := HSO1.out.row; simpa [flatO, hlO] using this)
          have HPOP := Lib.hid hpop
          clear hcs hrow0 hlO e2 hpop
          obtain ⟨i, k⟩ := p
          simp only at g0 g1
          have hbd := HINV.out.bd (i, k) (HINV.out.sub _ (by simp))
          rw [HAL.out, HBL.out] at hbd
          obtain ⟨hi, hk⟩ := hbd
          simp only at hi hk
          have hcap : O'.length ≤ cap := ownsRow_cap HPOP.out
          go_wp2_with fail
          go_region
          go_upto_block 2 with fail
          refine (show ∀ wy, SeenOpen w2 wy bs bo w2.heap.size S (.slice (some ⟨g, 0, none⟩) O'.length cap) O' → Code.wp Try.prog _ _ _ wy from ?_) _ ?_
          rotate_left
          · exact (HSO1.out.pop HPOP.out rfl).drew
          intro wy hsoy
          have HC := Lib.hid hsoy
          clear hsoy co fo g0 g1 HSO1 HPOP
          as_aux_lemma =>
            by_cases hF : i = L.length ∧ k = M.length
            · obtain ⟨rfl, rfl⟩ := hF
              have HY : Hid (Reach (absE L) (absE M) (L.length, M.length)) := by
                have := HINV.out
                rw [← HAL.out, ← HBL.out] at this
                have := this.yes
                rwa [HAL.out, HBL.out] at this
              go_wp2
              try rw [Exit.noGoto_ret]
              go_ret
              exact HF.out true ⟨fun _ => HY.out, fun _ => rfl⟩ _ (HB2.out.trans (HC.out.bel.mono (by omega)))
            · have hne : (i, k) ≠ ((absE L).length, (absE M).length) := by
                rw [HAL.out, HBL.out]
                intro e
                injection e with e1 e2
                exact hF ⟨e1, e2⟩
              by_cases hiA : i < L.length
              · obtain ⟨ga, rfl, hea⟩ := ElF_of HRL.out hiA
                have HEA := Lib.hid hea
                have ti : ((i : Int) == (L.length : Int)) = false := by rw [beq_eq_false_iff_ne]; omega
                have ti2 : (i : Int) < (L.length : Int) := by omega
                clear hea
                cases hma : L[i].many with
                | true =>
                  by_cases hkB : k < M.length
                  · obtain ⟨gb, rfl, heb⟩ := ElF_of HRM.out hkB
                    have HEB := Lib.hid heb
                    have tk : ((k : Int) == (M.length : Int)) = false := by rw [beq_eq_false_iff_ne]; omega
                    have tk2 : (k : Int) < (M.length : Int) := by omega
                    clear heb
                    cases hmb : M[k].many with
                    | true =>
                      cases hme : meet L[i].set M[k].set with
                      | true =>
                        as_aux_lemma =>
                          obtain ⟨a0, a1, a2, a3, a4⟩ := HEA.out _ HC.out.bel
                          rw [hma] at a4
                          obtain ⟨b0, b1, b2, b3, b4⟩ := HEB.out _ HC.out.bel
                          rw [hmb] at b4
                          go_wp2_with fail
                          refine (reach_any (i + 1, k) _ _ (by simp) (by simp) w2 _ bs bo w2.heap.size S O' _ (by omega) (by first | exact HC.out | exact HC.out.drew)).mono ?_
                          rintro e wz1 ⟨rfl, ov1, hso1⟩
                          have hOn1 := addO_len S O' (i + 1, k)
                          have HC := Lib.hid hso1
                          clear hso1
                          as_aux_lemma =>
                            obtain ⟨a0, a1, a2, a3, a4⟩ := HEA.out _ HC.out.bel
                            rw [hma] at a4
                            obtain ⟨b0, b1, b2, b3, b4⟩ := HEB.out _ HC.out.bel
                            rw [hmb] at b4
                            go_wp2_with fail
                            refine (reach_any (i, k + 1) _ _ (by simp) (by simp) w2 _ bs bo w2.heap.size (addS S (i + 1, k)) (addO S O' (i + 1, k)) _ (by omega) (by first | exact HC.out | exact HC.out.drew)).mono ?_
                            rintro e wz2 ⟨rfl, ov2, hso2⟩
                            have hOn2 := addO_len (addS S (i + 1, k)) (addO S O' (i + 1, k)) (i, k + 1)
                            have HC := Lib.hid hso2
                            clear hso2
                            as_aux_lemma =>
                              obtain ⟨a0, a1, a2, a3, a4⟩ := HEA.out _ HC.out.bel
                              rw [hma] at a4
                              obtain ⟨b0, b1, b2, b3, b4⟩ := HEB.out _ HC.out.bel
                              rw [hmb] at b4
                              go_wp2_with fail
                              go_still_tail 21, (by kernel_rfl)
                              change wpList _ _ _ _ _ (World.drew _)
                              go_wp2_with fail
                              refine (meets_any L[i].set M[k].set _).mono ?_
                              rintro e wy2 ⟨rfl, hbm⟩
                              have HC := Lib.hid (HC.out.drew.below hbm)
                              clear hbm
                              rw [hme]
                              obtain ⟨a0, a1, a2, a3, a4⟩ := HEA.out _ HC.out.bel
                              rw [hma] at a4
                              obtain ⟨b0, b1, b2, b3, b4⟩ := HEB.out _ HC.out.bel
                              rw [hmb] at b4
                              go_wp2_with fail
                              refine (reach_any (i, k) _ _ (by simp) (by simp) w2 _ bs bo w2.heap.size (addS (addS S (i + 1, k)) (i, k + 1)) (addO (addS S (i + 1, k)) (addO S O' (i + 1, k)) (i, k + 1)) _ (by omega) (by first | exact HC.out | exact HC.out.drew)).mono ?_
                              rintro e wz3 ⟨rfl, ov3, hso3⟩
                              have hOn3 := addO_len (addS (addS S (i + 1, k)) (i, k + 1)) (addO (addS S (i + 1, k)) (addO S O' (i + 1, k)) (i, k + 1)) (i, k)
                              have HC := Lib.hid hso3
                              clear hso3
                              as_aux_lemma =>
                                obtain ⟨a0, a1, a2, a3, a4⟩ := HEA.out _ HC.out.bel
                                rw [hma] at a4
                                obtain ⟨b0, b1, b2, b3, b4⟩ := HEB.out _ HC.out.bel
                                rw [hmb] at b4
                                go_wp2
                                have HADD : Hid (addAll (S, O') (sucA (absE L) (absE M) (i, k)) = ((addS (addS (addS S (i + 1, k)) (i, k + 1)) (i, k)), (addO (addS (addS S (i + 1, k)) (i, k + 1)) (addO (addS S (i + 1, k)) (addO S O' (i + 1, k)) (i, k + 1)) (i, k)))) := by
                                  have e : sucA (absE L) (absE M) (i, k) = [(i + 1, k), (i, k + 1), (i, k)] := by
                                    unfold sucA
                                    rw [HAL.out, HBL.out]
                                    rw [absE_nil hiA]
                                    rw [absE_nil hkB]
                                    have hma2 : (L[i].abs).1 = true := hma
                                    have hmb2 : (M[k].abs).1 = true := hmb
                                    have hme2 : meetA L[i].abs M[k].abs = true := hme
                                    simp [hma2, hiA, hmb2, hkB, hme2]
                                  rw [e]; rfl
                                obtain ⟨_, _, _, _, hnd, hlen⟩ := addAll_spec (sucA (absE L) (absE M) (i, k)) S O' HINV.out.nd
                                have hinv := HINV.out.next hne
                                have hmono := addAll_len (sucA (absE L) (absE M) (i, k)) S O'
                                rw [HADD.out] at hinv hnd hlen hmono
                                have hg := grid_le hinv.nd hinv.bd
                                have hms := HMS.out
                                have hos := HOS.out
                                simp only [List.length_append, List.length_cons, List.length_nil] at hms hos
                                simp only at hlen hg hmono
                                go_roundg (2 * (((absE L).length + 1) * ((absE M).length + 1)) + (addO (addS (addS S (i + 1, k)) (i, k + 1)) (addO (addS S (i + 1, k)) (addO S O' (i + 1, k)) (i, k + 1)) (i, k)).length - 2 * (addS (addS (addS S (i + 1, k)) (i, k + 1)) (i, k)).length)
                                case measure => omega
                                case rel => exact ⟨rfl, (addS (addS (addS S (i + 1, k)) (i, k + 1)) (i, k)), (addO (addS (addS S (i + 1, k)) (i, k + 1)) (addO (addS S (i + 1, k)) (addO S O' (i + 1, k)) (i, k + 1)) (i, k)), _, hinv, by first | exact HC.out | exact HC.out.drew, by omega, by omega⟩

                      | false =>
                        as_aux_lemma =>
                          obtain ⟨a0, a1, a2, a3, a4⟩ := HEA.out _ HC.out.bel
                          rw [hma] at a4
                          obtain ⟨b0, b1, b2, b3, b4⟩ := HEB.out _ HC.out.bel
                          rw [hmb] at b4
                          go_wp2_with fail
                          refine (reach_any (i + 1, k) _ _ (by simp) (by simp) w2 _ bs bo w2.heap.size S O' _ (by omega) (by first | exact HC.out | exact HC.out.drew)).mono ?_
                          rintro e wz1 ⟨rfl, ov1, hso1⟩
                          have hOn1 := addO_len S O' (i + 1, k)
                          have HC := Lib.hid hso1
                          clear hso1
                          as_aux_lemma =>
                            obtain ⟨a0, a1, a2, a3, a4⟩ := HEA.out _ HC.out.bel
                            rw [hma] at a4
                            obtain ⟨b0, b1, b2, b3, b4⟩ := HEB.out _ HC.out.bel
                            rw [hmb] at b4
                            go_wp2_with fail
                            refine (reach_any (i, k + 1) _ _ (by simp) (by simp) w2 _ bs bo w2.heap.size (addS S (i + 1, k)) (addO S O' (i + 1, k)) _ (by omega) (by first | exact HC.out | exact HC.out.drew)).mono ?_
                            rintro e wz2 ⟨rfl, ov2, hso2⟩
                            have hOn2 := addO_len (addS S (i + 1, k)) (addO S O' (i + 1, k)) (i, k + 1)
                            have HC := Lib.hid hso2
                            clear hso2
                            as_aux_lemma =>
                              obtain ⟨a0, a1, a2, a3, a4⟩ := HEA.out _ HC.out.bel
                              rw [hma] at a4
                              obtain ⟨b0, b1, b2, b3, b4⟩ := HEB.out _ HC.out.bel
                              rw [hmb] at b4
                              go_wp2_with fail
                              go_still_tail 21, (by kernel_rfl)
                              change wpList _ _ _ _ _ (World.drew _)
                              go_wp2_with fail
                              refine (meets_any L[i].set M[k].set _).mono ?_
                              rintro e wy2 ⟨rfl, hbm⟩
                              have HC := Lib.hid (HC.out.drew.below hbm)
                              clear hbm
                              rw [hme]
                              obtain ⟨a0, a1, a2, a3, a4⟩ := HEA.out _ HC.out.bel
                              rw [hma] at a4
                              obtain ⟨b0, b1, b2, b3, b4⟩ := HEB.out _ HC.out.bel
                              rw [hmb] at b4
                              go_wp2
                              have HADD : Hid (addAll (S, O') (sucA (absE L) (absE M) (i, k)) = ((addS (addS S (i + 1, k)) (i, k + 1)), (addO (addS S (i + 1, k)) (addO S O' (i + 1, k)) (i, k + 1)))) := by
                                have e : sucA (absE L) (absE M) (i, k) = [(i + 1, k), (i, k + 1)] := by
                                  unfold sucA
                                  rw [HAL.out, HBL.out]
                                  rw [absE_nil hiA]
                                  rw [absE_nil hkB]
                                  have hma2 : (L[i].abs).1 = true := hma
                                  have hmb2 : (M[k].abs).1 = true := hmb
                                  have hme2 : meetA L[i].abs M[k].abs = false := hme
                                  simp [hma2, hiA, hmb2, hkB, hme2]
                                rw [e]; rfl
                              obtain ⟨_, _, _, _, hnd, hlen⟩ := addAll_spec (sucA (absE L) (absE M) (i, k)) S O' HINV.out.nd
                              have hinv := HINV.out.next hne
                              have hmono := addAll_len (sucA (absE L) (absE M) (i, k)) S O'
                              rw [HADD.out] at hinv hnd hlen hmono
                              have hg := grid_le hinv.nd hinv.bd
                              have hms := HMS.out
                              have hos := HOS.out
                              simp only [List.length_append, List.length_cons, List.length_nil] at hms hos
                              simp only at hlen hg hmono
                              go_roundg (2 * (((absE L).length + 1) * ((absE M).length + 1)) + (addO (addS S (i + 1, k)) (addO S O' (i + 1, k)) (i, k + 1)).length - 2 * (addS (addS S (i + 1, k)) (i, k + 1)).length)
                              case measure => omega
                              case rel => exact ⟨rfl, (addS (addS S (i + 1, k)) (i, k + 1)), (addO (addS S (i + 1, k)) (addO S O' (i + 1, k)) (i, k + 1)), _, hinv, by first | exact HC.out | exact HC.out.drew, by omega, by omega⟩

                    | false =>
                      cases hme : meet L[i].set M[k].set with
                      | true =>
                        as_aux_lemma =>
                          obtain ⟨a0, a1, a2, a3, a4⟩ := HEA.out _ HC.out.bel
                          rw [hma] at a4
                          obtain ⟨b0, b1, b2, b3, b4⟩ := HEB.out _ HC.out.bel
                          rw [hmb] at b4
                          go_wp2_with fail
                          refine (reach_any (i + 1, k) _ _ (by simp) (by simp) w2 _ bs bo w2.heap.size S O' _ (by omega) (by first | exact HC.out | exact HC.out.drew)).mono ?_
                          rintro e wz1 ⟨rfl, ov1, hso1⟩
                          have hOn1 := addO_len S O' (i + 1, k)
                          have HC := Lib.hid hso1
                          clear hso1
                          as_aux_lemma =>
                            obtain ⟨a0, a1, a2, a3, a4⟩ := HEA.out _ HC.out.bel
                            rw [hma] at a4
                            obtain ⟨b0, b1, b2, b3, b4⟩ := HEB.out _ HC.out.bel
                            rw [hmb] at b4
                            go_wp2_with fail
                            go_still_tail 21, (by kernel_rfl)
                            change wpList _ _ _ _ _ (World.drew _)
                            go_wp2_with fail
                            refine (meets_any L[i].set M[k].set _).mono ?_
                            rintro e wy2 ⟨rfl, hbm⟩
                            have HC := Lib.hid (HC.out.drew.below hbm)
                            clear hbm
                            rw [hme]
                            obtain ⟨a0, a1, a2, a3, a4⟩ := HEA.out _ HC.out.bel
                            rw [hma] at a4
                            obtain ⟨b0, b1, b2, b3, b4⟩ := HEB.out _ HC.out.bel
                            rw [hmb] at b4
                            go_wp2_with fail
                            refine (reach_any (i, k + 1) _ _ (by simp) (by simp) w2 _ bs bo w2.heap.size (addS S (i + 1, k)) (addO S O' (i + 1, k)) _ (by omega) (by first | exact HC.out | exact HC.out.drew)).mono ?_
                            rintro e wz2 ⟨rfl, ov2, hso2⟩
                            have hOn2 := addO_len (addS S (i + 1, k)) (addO S O' (i + 1, k)) (i, k + 1)
                            have HC := Lib.hid hso2
                            clear hso2
                            as_aux_lemma =>
                              obtain ⟨a0, a1, a2, a3, a4⟩ := HEA.out _ HC.out.bel
                              rw [hma] at a4
                              obtain ⟨b0, b1, b2, b3, b4⟩ := HEB.out _ HC.out.bel
                              rw [hmb] at b4
                              go_wp2
                              have HADD : Hid (addAll (S, O') (sucA (absE L) (absE M) (i, k)) = ((addS (addS S (i + 1, k)) (i, k + 1)), (addO (addS S (i + 1, k)) (addO S O' (i + 1, k)) (i, k + 1)))) := by
                                have e : sucA (absE L) (absE M) (i, k) = [(i + 1, k), (i, k + 1)] := by
                                  unfold sucA
                                  rw [HAL.out, HBL.out]
                                  rw [absE_nil hiA]
                                  rw [absE_nil hkB]
                                  have hma2 : (L[i].abs).1 = true := hma
                                  have hmb2 : (M[k].abs).1 = false := hmb
                                  have hme2 : meetA L[i].abs M[k].abs = true := hme
                                  simp [hma2, hiA, hmb2, hkB, hme2]
                                rw [e]; rfl
                              obtain ⟨_, _, _, _, hnd, hlen⟩ := addAll_spec (sucA (absE L) (absE M) (i, k)) S O' HINV.out.nd
                              have hinv := HINV.out.next hne
                              have hmono := addAll_len (sucA (absE L) (absE M) (i, k)) S O'
                              rw [HADD.out] at hinv hnd hlen hmono
                              have hg := grid_le hinv.nd hinv.bd
                              have hms := HMS.out
                              have hos := HOS.out
                              simp only [List.length_append, List.length_cons, List.length_nil] at hms hos
                              simp only at hlen hg hmono
                              go_roundg (2 * (((absE L).length + 1) * ((absE M).length + 1)) + (addO (addS S (i + 1, k)) (addO S O' (i + 1, k)) (i, k + 1)).length - 2 * (addS (addS S (i + 1, k)) (i, k + 1)).length)
                              case measure => omega
                              case rel => exact ⟨rfl, (addS (addS S (i + 1, k)) (i, k + 1)), (addO (addS S (i + 1, k)) (addO S O' (i + 1, k)) (i, k + 1)), _, hinv, by first | exact HC.out | exact HC.out.drew, by omega, by omega⟩

                      | false =>
                        as_aux_lemma =>
                          obtain ⟨a0, a1, a2, a3, a4⟩ := HEA.out _ HC.out.bel
                          rw [hma] at a4
                          obtain ⟨b0, b1, b2, b3, b4⟩ := HEB.out _ HC.out.bel
                          rw [hmb] at b4
                          go_wp2_with fail
                          refine (reach_any (i + 1, k) _ _ (by simp) (by simp) w2 _ bs bo w2.heap.size S O' _ (by omega) (by first | exact HC.out | exact HC.out.drew)).mono ?_
                          rintro e wz1 ⟨rfl, ov1, hso1⟩
                          have hOn1 := addO_len S O' (i + 1, k)
                          have HC := Lib.hid hso1
                          clear hso1
                          as_aux_lemma =>
                            obtain ⟨a0, a1, a2, a3, a4⟩ := HEA.out _ HC.out.bel
                            rw [hma] at a4
                            obtain ⟨b0, b1, b2, b3, b4⟩ := HEB.out _ HC.out.bel
                            rw [hmb] at b4
                            go_wp2_with fail
                            go_still_tail 21, (by kernel_rfl)
                            change wpList _ _ _ _ _ (World.drew _)
                            go_wp2_with fail
                            refine (meets_any L[i].set M[k].set _).mono ?_
                            rintro e wy2 ⟨rfl, hbm⟩
                            have HC := Lib.hid (HC.out.drew.below hbm)
                            clear hbm
                            rw [hme]
                            obtain ⟨a0, a1, a2, a3, a4⟩ := HEA.out _ HC.out.bel
                            rw [hma] at a4
                            obtain ⟨b0, b1, b2, b3, b4⟩ := HEB.out _ HC.out.bel
                            rw [hmb] at b4
                            go_wp2
                            have HADD : Hid (addAll (S, O') (sucA (absE L) (absE M) (i, k)) = ((addS S (i + 1, k)), (addO S O' (i + 1, k)))) := by
                              have e : sucA (absE L) (absE M) (i, k) = [(i + 1, k)] := by
                                unfold sucA
                                rw [HAL.out, HBL.out]
                                rw [absE_nil hiA]
                                rw [absE_nil hkB]
                                have hma2 : (L[i].abs).1 = true := hma
                                have hmb2 : (M[k].abs).1 = false := hmb
                                have hme2 : meetA L[i].abs M[k].abs = false := hme
                                simp [hma2, hiA, hmb2, hkB, hme2]
                              rw [e]; rfl
                            obtain ⟨_, _, _, _, hnd, hlen⟩ := addAll_spec (sucA (absE L) (absE M) (i, k)) S O' HINV.out.nd
                            have hinv := HINV.out.next hne
                            have hmono := addAll_len (sucA (absE L) (absE M) (i, k)) S O'
                            rw [HADD.out] at hinv hnd hlen hmono
                            have hg := grid_le hinv.nd hinv.bd
                            have hms := HMS.out
                            have hos := HOS.out
                            simp only [List.length_append, List.length_cons, List.length_nil] at hms hos
                            simp only at hlen hg hmono
                            go_roundg (2 * (((absE L).length + 1) * ((absE M).length + 1)) + (addO S O' (i + 1, k)).length - 2 * (addS S (i + 1, k)).length)
                            case measure => omega
                            case rel => exact ⟨rfl, (addS S (i + 1, k)), (addO S O' (i + 1, k)), _, hinv, by first | exact HC.out | exact HC.out.drew, by omega, by omega⟩

                  · have hkE : k = M.length := by omega
                    subst hkE
                    have tk : ((M.length : Int) == (M.length : Int)) = true := by simp
                    as_aux_lemma =>
                      obtain ⟨a0, a1, a2, a3, a4⟩ := HEA.out _ HC.out.bel
                      rw [hma] at a4
                      go_wp2_with fail
                      refine (reach_any (i + 1, M.length) _ _ (by simp) (by simp) w2 _ bs bo w2.heap.size S O' _ (by omega) (by first | exact HC.out | exact HC.out.drew)).mono ?_
                      rintro e wz1 ⟨rfl, ov1, hso1⟩
                      have hOn1 := addO_len S O' (i + 1, M.length)
                      have HC := Lib.hid hso1
                      clear hso1
                      as_aux_lemma =>
                        obtain ⟨a0, a1, a2, a3, a4⟩ := HEA.out _ HC.out.bel
                        rw [hma] at a4
                        go_wp2_with fail
                        go_region
                        go_wp2
                        have HADD : Hid (addAll (S, O') (sucA (absE L) (absE M) (i, M.length)) = ((addS S (i + 1, M.length)), (addO S O' (i + 1, M.length)))) := by
                          have e : sucA (absE L) (absE M) (i, M.length) = [(i + 1, M.length)] := by
                            unfold sucA
                            rw [HAL.out, HBL.out]
                            rw [absE_nil hiA]
                            skip
                            have hma2 : (L[i].abs).1 = true := hma
                            skip
                            skip
                            simp [hma2, hiA, hkB]
                          rw [e]; rfl
                        obtain ⟨_, _, _, _, hnd, hlen⟩ := addAll_spec (sucA (absE L) (absE M) (i, M.length)) S O' HINV.out.nd
                        have hinv := HINV.out.next hne
                        have hmono := addAll_len (sucA (absE L) (absE M) (i, M.length)) S O'
                        rw [HADD.out] at hinv hnd hlen hmono
                        have hg := grid_le hinv.nd hinv.bd
                        have hms := HMS.out
                        have hos := HOS.out
                        simp only [List.length_append, List.length_cons, List.length_nil] at hms hos
                        simp only at hlen hg hmono
                        go_roundg (2 * (((absE L).length + 1) * ((absE M).length + 1)) + (addO S O' (i + 1, M.length)).length - 2 * (addS S (i + 1, M.length)).length)
                        case measure => omega
                        case rel => exact ⟨rfl, (addS S (i + 1, M.length)), (addO S O' (i + 1, M.length)), _, hinv, by first | exact HC.out | exact HC.out.drew, by omega, by omega⟩
                | false =>
                  by_cases hkB : k < M.length
                  · obtain ⟨gb, rfl, heb⟩ := ElF_of HRM.out hkB
                    have HEB := Lib.hid heb
                    have tk : ((k : Int) == (M.length : Int)) = false := by rw [beq_eq_false_iff_ne]; omega
                    have tk2 : (k : Int) < (M.length : Int) := by omega
                    clear heb
                    cases hmb : M[k].many with
                    | true =>
                      cases hme : meet L[i].set M[k].set with
                      | true =>
                        as_aux_lemma =>
                          obtain ⟨a0, a1, a2, a3, a4⟩ := HEA.out _ HC.out.bel
                          rw [hma] at a4
                          obtain ⟨b0, b1, b2, b3, b4⟩ := HEB.out _ HC.out.bel
                          rw [hmb] at b4
                          go_wp2_with fail
                          refine (reach_any (i, k + 1) _ _ (by simp) (by simp) w2 _ bs bo w2.heap.size S O' _ (by omega) (by first | exact HC.out | exact HC.out.drew)).mono ?_
                          rintro e wz1 ⟨rfl, ov1, hso1⟩
                          have hOn1 := addO_len S O' (i, k + 1)
                          have HC := Lib.hid hso1
                          clear hso1
                          as_aux_lemma =>
                            obtain ⟨a0, a1, a2, a3, a4⟩ := HEA.out _ HC.out.bel
                            rw [hma] at a4
                            obtain ⟨b0, b1, b2, b3, b4⟩ := HEB.out _ HC.out.bel
                            rw [hmb] at b4
                            go_wp2_with fail
                            go_still_tail 21, (by kernel_rfl)
                            change wpList _ _ _ _ _ (World.drew _)
                            go_wp2_with fail
                            refine (meets_any L[i].set M[k].set _).mono ?_
                            rintro e wy2 ⟨rfl, hbm⟩
                            have HC := Lib.hid (HC.out.drew.below hbm)
                            clear hbm
                            rw [hme]
                            obtain ⟨a0, a1, a2, a3, a4⟩ := HEA.out _ HC.out.bel
                            rw [hma] at a4
                            obtain ⟨b0, b1, b2, b3, b4⟩ := HEB.out _ HC.out.bel
                            rw [hmb] at b4
                            go_wp2_with fail
                            refine (reach_any (i + 1, k) _ _ (by simp) (by simp) w2 _ bs bo w2.heap.size (addS S (i, k + 1)) (addO S O' (i, k + 1)) _ (by omega) (by first | exact HC.out | exact HC.out.drew)).mono ?_
                            rintro e wz2 ⟨rfl, ov2, hso2⟩
                            have hOn2 := addO_len (addS S (i, k + 1)) (addO S O' (i, k + 1)) (i + 1, k)
                            have HC := Lib.hid hso2
                            clear hso2
                            as_aux_lemma =>
                              obtain ⟨a0, a1, a2, a3, a4⟩ := HEA.out _ HC.out.bel
                              rw [hma] at a4
                              obtain ⟨b0, b1, b2, b3, b4⟩ := HEB.out _ HC.out.bel
                              rw [hmb] at b4
                              go_wp2
                              have HADD : Hid (addAll (S, O') (sucA (absE L) (absE M) (i, k)) = ((addS (addS S (i, k + 1)) (i + 1, k)), (addO (addS S (i, k + 1)) (addO S O' (i, k + 1)) (i + 1, k)))) := by
                                have e : sucA (absE L) (absE M) (i, k) = [(i, k + 1), (i + 1, k)] := by
                                  unfold sucA
                                  rw [HAL.out, HBL.out]
                                  rw [absE_nil hiA]
                                  rw [absE_nil hkB]
                                  have hma2 : (L[i].abs).1 = false := hma
                                  have hmb2 : (M[k].abs).1 = true := hmb
                                  have hme2 : meetA L[i].abs M[k].abs = true := hme
                                  simp [hma2, hiA, hmb2, hkB, hme2]
                                rw [e]; rfl
                              obtain ⟨_, _, _, _, hnd, hlen⟩ := addAll_spec (sucA (absE L) (absE M) (i, k)) S O' HINV.out.nd
                              have hinv := HINV.out.next hne
                              have hmono := addAll_len (sucA (absE L) (absE M) (i, k)) S O'
                              rw [HADD.out] at hinv hnd hlen hmono
                              have hg := grid_le hinv.nd hinv.bd
                              have hms := HMS.out
                              have hos := HOS.out
                              simp only [List.length_append, List.length_cons, List.length_nil] at hms hos
                              simp only at hlen hg hmono
                              go_roundg (2 * (((absE L).length + 1) * ((absE M).length + 1)) + (addO (addS S (i, k + 1)) (addO S O' (i, k + 1)) (i + 1, k)).length - 2 * (addS (addS S (i, k + 1)) (i + 1, k)).length)
                              case measure => omega
                              case rel => exact ⟨rfl, (addS (addS S (i, k + 1)) (i + 1, k)), (addO (addS S (i, k + 1)) (addO S O' (i, k + 1)) (i + 1, k)), _, hinv, by first | exact HC.out | exact HC.out.drew, by omega, by omega⟩

                      | false =>
                        as_aux_lemma =>
                          obtain ⟨a0, a1, a2, a3, a4⟩ := HEA.out _ HC.out.bel
                          rw [hma] at a4
                          obtain ⟨b0, b1, b2, b3, b4⟩ := HEB.out _ HC.out.bel
                          rw [hmb] at b4
                          go_wp2_with fail
                          refine (reach_any (i, k + 1) _ _ (by simp) (by simp) w2 _ bs bo w2.heap.size S O' _ (by omega) (by first | exact HC.out | exact HC.out.drew)).mono ?_
                          rintro e wz1 ⟨rfl, ov1, hso1⟩
                          have hOn1 := addO_len S O' (i, k + 1)
                          have HC := Lib.hid hso1
                          clear hso1
                          as_aux_lemma =>
                            obtain ⟨a0, a1, a2, a3, a4⟩ := HEA.out _ HC.out.bel
                            rw [hma] at a4
                            obtain ⟨b0, b1, b2, b3, b4⟩ := HEB.out _ HC.out.bel
                            rw [hmb] at b4
                            go_wp2_with fail
                            go_still_tail 21, (by kernel_rfl)
                            change wpList _ _ _ _ _ (World.drew _)
                            go_wp2_with fail
                            refine (meets_any L[i].set M[k].set _).mono ?_
                            rintro e wy2 ⟨rfl, hbm⟩
                            have HC := Lib.hid (HC.out.drew.below hbm)
                            clear hbm
                            rw [hme]
                            obtain ⟨a0, a1, a2, a3, a4⟩ := HEA.out _ HC.out.bel
                            rw [hma] at a4
                            obtain ⟨b0, b1, b2, b3, b4⟩ := HEB.out _ HC.out.bel
                            rw [hmb] at b4
                            go_wp2
                            have HADD : Hid (addAll (S, O') (sucA (absE L) (absE M) (i, k)) = ((addS S (i, k + 1)), (addO S O' (i, k + 1)))) := by
                              have e : sucA (absE L) (absE M) (i, k) = [(i, k + 1)] := by
                                unfold sucA
                                rw [HAL.out, HBL.out]
                                rw [absE_nil hiA]
                                rw [absE_nil hkB]
                                have hma2 : (L[i].abs).1 = false := hma
                                have hmb2 : (M[k].abs).1 = true := hmb
                                have hme2 : meetA L[i].abs M[k].abs = false := hme
                                simp [hma2, hiA, hmb2, hkB, hme2]
                              rw [e]; rfl
                            obtain ⟨_, _, _, _, hnd, hlen⟩ := addAll_spec (sucA (absE L) (absE M) (i, k)) S O' HINV.out.nd
                            have hinv := HINV.out.next hne
                            have hmono := addAll_len (sucA (absE L) (absE M) (i, k)) S O'
                            rw [HADD.out] at hinv hnd hlen hmono
                            have hg := grid_le hinv.nd hinv.bd
                            have hms := HMS.out
                            have hos := HOS.out
                            simp only [List.length_append, List.length_cons, List.length_nil] at hms hos
                            simp only at hlen hg hmono
                            go_roundg (2 * (((absE L).length + 1) * ((absE M).length + 1)) + (addO S O' (i, k + 1)).length - 2 * (addS S (i, k + 1)).length)
                            case measure => omega
                            case rel => exact ⟨rfl, (addS S (i, k + 1)), (addO S O' (i, k + 1)), _, hinv, by first | exact HC.out | exact HC.out.drew, by omega, by omega⟩

                    | false =>
                      cases hme : meet L[i].set M[k].set with
                      | true =>
                        as_aux_lemma =>
                          obtain ⟨a0, a1, a2, a3, a4⟩ := HEA.out _ HC.out.bel
                          rw [hma] at a4
                          obtain ⟨b0, b1, b2, b3, b4⟩ := HEB.out _ HC.out.bel
                          rw [hmb] at b4
                          go_wp2_with fail
                          go_still_tail 21, (by kernel_rfl)
                          change wpList _ _ _ _ _ (World.drew _)
                          go_wp2_with fail
                          refine (meets_any L[i].set M[k].set _).mono ?_
                          rintro e wy2 ⟨rfl, hbm⟩
                          have HC := Lib.hid (HC.out.drew.below hbm)
                          clear hbm
                          rw [hme]
                          obtain ⟨a0, a1, a2, a3, a4⟩ := HEA.out _ HC.out.bel
                          rw [hma] at a4
                          obtain ⟨b0, b1, b2, b3, b4⟩ := HEB.out _ HC.out.bel
                          rw [hmb] at b4
                          go_wp2_with fail
                          refine (reach_any (i + 1, k + 1) _ _ (by simp) (by simp) w2 _ bs bo w2.heap.size S O' _ (by omega) (by first | exact HC.out | exact HC.out.drew)).mono ?_
                          rintro e wz1 ⟨rfl, ov1, hso1⟩
                          have hOn1 := addO_len S O' (i + 1, k + 1)
                          have HC := Lib.hid hso1
                          clear hso1
                          as_aux_lemma =>
                            obtain ⟨a0, a1, a2, a3, a4⟩ := HEA.out _ HC.out.bel
                            rw [hma] at a4
                            obtain ⟨b0, b1, b2, b3, b4⟩ := HEB.out _ HC.out.bel
                            rw [hmb] at b4
                            go_wp2
                            have HADD : Hid (addAll (S, O') (sucA (absE L) (absE M) (i, k)) = ((addS S (i + 1, k + 1)), (addO S O' (i + 1, k + 1)))) := by
                              have e : sucA (absE L) (absE M) (i, k) = [(i + 1, k + 1)] := by
                                unfold sucA
                                rw [HAL.out, HBL.out]
                                rw [absE_nil hiA]
                                rw [absE_nil hkB]
                                have hma2 : (L[i].abs).1 = false := hma
                                have hmb2 : (M[k].abs).1 = false := hmb
                                have hme2 : meetA L[i].abs M[k].abs = true := hme
                                simp [hma2, hiA, hmb2, hkB, hme2]
                              rw [e]; rfl
                            obtain ⟨_, _, _, _, hnd, hlen⟩ := addAll_spec (sucA (absE L) (absE M) (i, k)) S O' HINV.out.nd
                            have hinv := HINV.out.next hne
                            have hmono := addAll_len (sucA (absE L) (absE M) (i, k)) S O'
                            rw [HADD.out] at hinv hnd hlen hmono
                            have hg := grid_le hinv.nd hinv.bd
                            have hms := HMS.out
                            have hos := HOS.out
                            simp only [List.length_append, List.length_cons, List.length_nil] at hms hos
                            simp only at hlen hg hmono
                            go_roundg (2 * (((absE L).length + 1) * ((absE M).length + 1)) + (addO S O' (i + 1, k + 1)).length - 2 * (addS S (i + 1, k + 1)).length)
                            case measure => omega
                            case rel => exact ⟨rfl, (addS S (i + 1, k + 1)), (addO S O' (i + 1, k + 1)), _, hinv, by first | exact HC.out | exact HC.out.drew, by omega, by omega⟩

                      | false =>
                        as_aux_lemma =>
                          obtain ⟨a0, a1, a2, a3, a4⟩ := HEA.out _ HC.out.bel
                          rw [hma] at a4
                          obtain ⟨b0, b1, b2, b3, b4⟩ := HEB.out _ HC.out.bel
                          rw [hmb] at b4
                          go_wp2_with fail
                          go_still_tail 21, (by kernel_rfl)
                          change wpList _ _ _ _ _ (World.drew _)
                          go_wp2_with fail
                          refine (meets_any L[i].set M[k].set _).mono ?_
                          rintro e wy2 ⟨rfl, hbm⟩
                          have HC := Lib.hid (HC.out.drew.below hbm)
                          clear hbm
                          rw [hme]
                          obtain ⟨a0, a1, a2, a3, a4⟩ := HEA.out _ HC.out.bel
                          rw [hma] at a4
                          obtain ⟨b0, b1, b2, b3, b4⟩ := HEB.out _ HC.out.bel
                          rw [hmb] at b4
                          go_wp2
                          have HADD : Hid (addAll (S, O') (sucA (absE L) (absE M) (i, k)) = (S, O')) := by
                            have e : sucA (absE L) (absE M) (i, k) = [] := by
                              unfold sucA
                              rw [HAL.out, HBL.out]
                              rw [absE_nil hiA]
                              rw [absE_nil hkB]
                              have hma2 : (L[i].abs).1 = false := hma
                              have hmb2 : (M[k].abs).1 = false := hmb
                              have hme2 : meetA L[i].abs M[k].abs = false := hme
                              simp [hma2, hiA, hmb2, hkB, hme2]
                            rw [e]; rfl
                          obtain ⟨_, _, _, _, hnd, hlen⟩ := addAll_spec (sucA (absE L) (absE M) (i, k)) S O' HINV.out.nd
                          have hinv := HINV.out.next hne
                          have hmono := addAll_len (sucA (absE L) (absE M) (i, k)) S O'
                          rw [HADD.out] at hinv hnd hlen hmono
                          have hg := grid_le hinv.nd hinv.bd
                          have hms := HMS.out
                          have hos := HOS.out
                          simp only [List.length_append, List.length_cons, List.length_nil] at hms hos
                          simp only at hlen hg hmono
                          go_roundg (2 * (((absE L).length + 1) * ((absE M).length + 1)) + O'.length - 2 * S.length)
                          case measure => omega
                          case rel => exact ⟨rfl, S, O', _, hinv, by first | exact HC.out | exact HC.out.drew, by omega, by omega⟩

                  · have hkE : k = M.length := by omega
                    subst hkE
                    have tk : ((M.length : Int) == (M.length : Int)) = true := by simp
                    as_aux_lemma =>
                      obtain ⟨a0, a1, a2, a3, a4⟩ := HEA.out _ HC.out.bel
                      rw [hma] at a4
                      go_wp2_with fail
                      go_region
                      go_wp2
                      have HADD : Hid (addAll (S, O') (sucA (absE L) (absE M) (i, M.length)) = (S, O')) := by
                        have e : sucA (absE L) (absE M) (i, M.length) = [] := by
                          unfold sucA
                          rw [HAL.out, HBL.out]
                          rw [absE_nil hiA]
                          skip
                          have hma2 : (L[i].abs).1 = false := hma
                          skip
                          skip
                          simp [hma2, hiA, hkB]
                        rw [e]; rfl
                      obtain ⟨_, _, _, _, hnd, hlen⟩ := addAll_spec (sucA (absE L) (absE M) (i, M.length)) S O' HINV.out.nd
                      have hinv := HINV.out.next hne
                      have hmono := addAll_len (sucA (absE L) (absE M) (i, M.length)) S O'
                      rw [HADD.out] at hinv hnd hlen hmono
                      have hg := grid_le hinv.nd hinv.bd
                      have hms := HMS.out
                      have hos := HOS.out
                      simp only [List.length_append, List.length_cons, List.length_nil] at hms hos
                      simp only at hlen hg hmono
                      go_roundg (2 * (((absE L).length + 1) * ((absE M).length + 1)) + O'.length - 2 * S.length)
                      case measure => omega
                      case rel => exact ⟨rfl, S, O', _, hinv, by first | exact HC.out | exact HC.out.drew, by omega, by omega⟩
              · have hiE : i = L.length := by omega
                subst hiE
                have hkB : k < M.length := by omega
                have ti : ((L.length : Int) == (L.length : Int)) = true := by simp
                obtain ⟨gb, rfl, heb⟩ := ElF_of HRM.out hkB
                have HEB := Lib.hid heb
                have tk : ((k : Int) == (M.length : Int)) = false := by rw [beq_eq_false_iff_ne]; omega
                have tk2 : (k : Int) < (M.length : Int) := by omega
                clear heb
                cases hmb : M[k].many with
                | true =>
                  as_aux_lemma =>
                    obtain ⟨b0, b1, b2, b3, b4⟩ := HEB.out _ HC.out.bel
                    rw [hmb] at b4
                    go_wp2_with fail
                    refine (reach_any (L.length, k + 1) _ _ (by simp) (by simp) w2 _ bs bo w2.heap.size S O' _ (by omega) (by first | exact HC.out | exact HC.out.drew)).mono ?_
                    rintro e wz1 ⟨rfl, ov1, hso1⟩
                    have hOn1 := addO_len S O' (L.length, k + 1)
                    have HC := Lib.hid hso1
                    clear hso1
                    as_aux_lemma =>
                      obtain ⟨b0, b1, b2, b3, b4⟩ := HEB.out _ HC.out.bel
                      rw [hmb] at b4
                      go_wp2_with fail
                      go_region
                      go_wp2
                      have HADD : Hid (addAll (S, O') (sucA (absE L) (absE M) (L.length, k)) = ((addS S (L.length, k + 1)), (addO S O' (L.length, k + 1)))) := by
                        have e : sucA (absE L) (absE M) (L.length, k) = [(L.length, k + 1)] := by
                          unfold sucA
                          rw [HAL.out, HBL.out]
                          skip
                          rw [absE_nil hkB]
                          skip
                          have hmb2 : (M[k].abs).1 = true := hmb
                          skip
                          simp [hiA, hmb2, hkB]
                        rw [e]; rfl
                      obtain ⟨_, _, _, _, hnd, hlen⟩ := addAll_spec (sucA (absE L) (absE M) (L.length, k)) S O' HINV.out.nd
                      have hinv := HINV.out.next hne
                      have hmono := addAll_len (sucA (absE L) (absE M) (L.length, k)) S O'
                      rw [HADD.out] at hinv hnd hlen hmono
                      have hg := grid_le hinv.nd hinv.bd
                      have hms := HMS.out
                      have hos := HOS.out
                      simp only [List.length_append, List.length_cons, List.length_nil] at hms hos
                      simp only at hlen hg hmono
                      go_roundg (2 * (((absE L).length + 1) * ((absE M).length + 1)) + (addO S O' (L.length, k + 1)).length - 2 * (addS S (L.length, k + 1)).length)
                      case measure => omega
                      case rel => exact ⟨rfl, (addS S (L.length, k + 1)), (addO S O' (L.length, k + 1)), _, hinv, by first | exact HC.out | exact HC.out.drew, by omega, by omega⟩
                | false =>
                  as_aux_lemma =>
                    obtain ⟨b0, b1, b2, b3, b4⟩ := HEB.out _ HC.out.bel
                    rw [hmb] at b4
                    go_wp2_with fail
                    go_region
                    go_wp2
                    have HADD : Hid (addAll (S, O') (sucA (absE L) (absE M) (L.length, k)) = (S, O')) := by
                      have e : sucA (absE L) (absE M) (L.length, k) = [] := by
                        unfold sucA
                        rw [HAL.out, HBL.out]
                        skip
                        rw [absE_nil hkB]
                        skip
                        have hmb2 : (M[k].abs).1 = false := hmb
                        skip
                        simp [hiA, hmb2, hkB]
                      rw [e]; rfl
                    obtain ⟨_, _, _, _, hnd, hlen⟩ := addAll_spec (sucA (absE L) (absE M) (L.length, k)) S O' HINV.out.nd
                    have hinv := HINV.out.next hne
                    have hmono := addAll_len (sucA (absE L) (absE M) (L.length, k)) S O'
                    rw [HADD.out] at hinv hnd hlen hmono
                    have hg := grid_le hinv.nd hinv.bd
                    have hms := HMS.out
                    have hos := HOS.out
                    simp only [List.length_append, List.length_cons, List.length_nil] at hms hos
                    simp only at hlen hg hmono
                    go_roundg (2 * (((absE L).length + 1) * ((absE M).length + 1)) + O'.length - 2 * S.length)
                    case measure => omega
                    case rel => exact ⟨rfl, S, O', _, hinv, by first | exact HC.out | exact HC.out.drew, by omega, by omega⟩
end Go.Proofs.Ytnmbabaihfdljaa
