/- The walk over the program's Add. -/
import Derived.Test.YthnodeicbicjcaaDoorQua4
namespace Go.Proofs.YthnodeicbicjcaaDoor
open Go.RowKit

/-- the first index, or none -/
theorem firstF_cases (p : Qu → Bool) : ∀ (qs : List Qu) (n : Nat), (firstF p qs n = -1 ∧ qs.any p = false) ∨ ∃ k, ∃ hk : k < qs.length, firstF p qs n = ((n + k : Nat) : Int) ∧ p qs[k] = true
  | [], _ => .inl ⟨rfl, rfl⟩
  | q :: qs, n => by
    rw [firstF]
    by_cases h : p q = true
    · exact .inr ⟨0, by simp, by rw [if_pos h]; rfl, h⟩
    · rw [if_neg h]
      rcases firstF_cases p qs (n + 1) with ⟨h1, h2⟩ | ⟨k, hk, h1, h2⟩
      · exact .inl ⟨h1, by simp [h, h2]⟩
      · exact .inr ⟨k + 1, by simp; omega, by rw [h1]; congr 1; omega, h2⟩

def maxT : Int := 1125899906842624
def endF (now len : Int) : Int := min (now + len) maxT
def updF (now e : Int) (q : Qu) : Qu := ⟨q.name, if onF q now then q.since else now, max q.til e⟩
/-- what Add answers -/
def addF (qs : List Qu) (name : ByteArray) (now len : Int) : List Qu × Nat :=
  if partsF name.data.toList ≠ 0 then (qs, 1)
  else if ¬ (0 ≤ now ∧ now ≤ maxT ∧ 1 ≤ len ∧ len ≤ maxT) then (qs, 2)
  else match firstF (fun q => sameN q.name name) qs 0 with
    | .ofNat k => (match qs[k]? with | some q => qs.set k (updF now (endF now len) q) | none => qs, 0)
    | .negSucc _ => (qs ++ [⟨name, now, endF now len⟩], 0)

def AddPost (x : List Qu × Nat) (w : World) (e : Ending) (w' : World) : Prop :=
  ∃ v, e = .returned (.tuple #[v, .int .i64 (x.2 : Nat)]) ∧ QuAt w' v x.1 ∧ Below w.heap.size w w'

theorem flatMap_set {α : Type} {sz : Nat} {f : α → List Value} (hf : ∀ x, (f x).length = sz) : ∀ (xs : List α) (i : Nat) (hi : i < xs.length) (j : Nat) (u : Value) (y : α), j < sz → f y = (f xs[i]).set j u → (xs.set i y).flatMap f = (xs.flatMap f).set (i * sz + j) u
  | x :: xs, 0, hi, j, u, y, hj, h => by
    simp only [List.set_cons_zero, List.flatMap_cons, Nat.zero_mul, Nat.zero_add, List.getElem_cons_zero] at h ⊢
    rw [h, List.set_append_left _ _ (by rw [hf]; exact hj)]
  | x :: xs, i + 1, hi, j, u, y, hj, h => by
    simp only [List.set_cons_succ, List.flatMap_cons, List.getElem_cons_succ] at h ⊢
    have hle : sz ≤ (i + 1) * sz + j := by rw [Nat.add_mul]; omega
    rw [List.set_append_right _ _ (by rw [hf]; exact hle), hf, flatMap_set hf xs i (by simpa using hi) j u y hj h]
    congr 2
    rw [Nat.add_mul]; omega

/-- what is owned can be written, one cell at a time -/
theorem QuRow.open_ {w : World} {base : Nat} {v : Value} {qs : List Qu} (h : QuRow w base v qs) (hne : 0 < qs.length) :
    ∃ g cap, v = .slice (some ⟨g, 0, none⟩) qs.length cap ∧ base ≤ g ∧ g < w.heap.size ∧ (∀ i, w.frozen? ⟨g, i, none⟩ = false) ∧
      ∀ (i : Nat) (hi : i < qs.length) (j : Nat) (u : Value) (y : Qu), j < 3 → y.cells = qs[i].cells.set j u → QuRow (w.setCell ⟨g, i * 3 + j, none⟩ u) base v (qs.set i y) ∧ ∃ o, Wrote g o w (w.setCell ⟨g, i * 3 + j, none⟩ u) := by
  obtain ⟨hl, hr⟩ := h
  rcases hr with ⟨_, h0⟩ | ⟨g, cap, cur, hv, hb, hg, hn, hm, hs, ht⟩
  · omega
  · refine ⟨g, cap, hv, hb, (Array.getElem?_eq_some_iff.1 hg).1, fun i => free_of_blk hg i, ?_⟩
    intro i hi j u y hj hy
    have hW := wrote_setCell hg (i * 3 + j) u
    refine ⟨⟨by rw [flatMap_set Qu.cells_len qs i hi j u y hj hy]; simpa using hl, .inr ⟨g, cap, _, by rw [List.length_set]; exact hv, hb, hW.at_, by rw [List.length_set]; exact hn, hm, by simp [hs], ?_⟩⟩, _, hW⟩
    rw [Array.toList_setIfInBounds, List.take_set, List.length_set, ht, flatMap_set Qu.cells_len qs i hi j u y hj hy]

theorem QuRow.lit {w : World} {base g n cap : Nat} {qs : List Qu} (h : QuRow w base (.slice (some ⟨g, 0, none⟩) n cap) qs) {k : Nat} (hk : k < qs.length) :
    base ≤ g ∧ g < w.heap.size ∧ (∀ i, w.frozen? ⟨g, i, none⟩ = false) ∧ w.cell? ⟨g, k * 3, none⟩ = some (.string qs[k].name) ∧ w.cell? ⟨g, k * 3 + 1, none⟩ = some (.int .i64 qs[k].since) ∧ w.cell? ⟨g, k * 3 + 2, none⟩ = some (.int .i64 qs[k].til) ∧
      ∀ (j : Nat) (u : Value) (y : Qu), j < 3 → y.cells = qs[k].cells.set j u → QuRow (w.setCell ⟨g, k * 3 + j, none⟩ u) base (.slice (some ⟨g, 0, none⟩) n cap) (qs.set k y) ∧ ∃ o, Wrote g o w (w.setCell ⟨g, k * 3 + j, none⟩ u) := by
  obtain ⟨g', cap', hv, hbg, hgw, hfz, hset⟩ := QuRow.open_ h (by omega)
  injection hv with e1 e2 e3
  injection e1 with e1
  injection e1 with e1
  subst e1
  obtain ⟨g', c', hv', _, _, _, hcs⟩ := ownsRow_at (f := Qu.cells) h Qu.cells_len (by decide) hk
  injection hv' with f1 f2 f3
  injection f1 with f1
  injection f1 with f1
  subst f1
  have c0 := hcs 0 _ rfl
  simp only [Nat.add_zero] at c0
  exact ⟨hbg, hgw, hfz, c0, hcs 1 _ rfl, hcs 2 _ rfl, fun j u y hj hy => hset k hk j u y hj hy⟩

theorem QuRow.set12 {w : World} {base g n cap : Nat} {qs : List Qu} (h : QuRow w base (.slice (some ⟨g, 0, none⟩) n cap) qs) {k : Nat} (hk : k < qs.length) (a b : Int) :
    QuRow ((w.setCell ⟨g, k * 3 + 1, none⟩ (.int .i64 a)).setCell ⟨g, k * 3 + 2, none⟩ (.int .i64 b)) base (.slice (some ⟨g, 0, none⟩) n cap) (qs.set k ⟨qs[k].name, a, b⟩) ∧
      ∃ o, Wrote g o w ((w.setCell ⟨g, k * 3 + 1, none⟩ (.int .i64 a)).setCell ⟨g, k * 3 + 2, none⟩ (.int .i64 b)) := by
  obtain ⟨_, _, _, _, _, _, hs⟩ := h.lit hk
  obtain ⟨r1, o1, w1⟩ := hs 1 (.int .i64 a) ⟨qs[k].name, a, qs[k].til⟩ (by decide) rfl
  obtain ⟨_, _, _, _, _, _, hs2⟩ := r1.lit (k := k) (by simpa using hk)
  obtain ⟨r2, o2, w2⟩ := hs2 2 (.int .i64 b) ⟨qs[k].name, a, b⟩ (by decide) (by simp [Qu.cells])
  rw [List.set_set] at r2
  exact ⟨r2, o2, w1.trans w2⟩

theorem QuRow.set2 {w : World} {base g n cap : Nat} {qs : List Qu} (h : QuRow w base (.slice (some ⟨g, 0, none⟩) n cap) qs) {k : Nat} (hk : k < qs.length) (b : Int) :
    QuRow (w.setCell ⟨g, k * 3 + 2, none⟩ (.int .i64 b)) base (.slice (some ⟨g, 0, none⟩) n cap) (qs.set k ⟨qs[k].name, qs[k].since, b⟩) ∧
      ∃ o, Wrote g o w (w.setCell ⟨g, k * 3 + 2, none⟩ (.int .i64 b)) := by
  obtain ⟨_, _, _, _, _, _, hs⟩ := h.lit hk
  exact hs 2 (.int .i64 b) ⟨qs[k].name, qs[k].since, b⟩ (by decide) rfl

set_option maxRecDepth 100000 in
set_option maxHeartbeats 1600000 in
theorem add_any (v : Value) (qs : List Qu) (hn : qs.length ≤ 4000) (name : ByteArray) (now len : Int) (m : Int) (w : World) (h : QuAt w v qs) (hm : w.cell? ⟨0, 0, none⟩ = some (.int .i64 m)) (hg : 0 < w.heap.size) :
    Calls Tryd.prog 11 #[v, .string name, .int .i64 now, .int .i64 len] w (AddPost (addF qs name now len) w) := by
  have H := Lib.hid h
  have HM := Lib.hid hm
  clear h hm
  have HB1 := Lib.hid ((Below.refl w.heap.size w).alloc (Nat.le_refl _) (.cells #[.string name] 9))
  have HN1 : Hid ((w.alloc (.cells #[.string name] 9)).heap[w.heap.size]? = some (.cells #[.string name] 9)) := hp_new rfl
  have HZ1 : Hid ((w.alloc (.cells #[.string name] 9)).heap.size = w.heap.size + 1) := by unfold Hid; simp
  go_enter Tryd.func11, Tryd.ntmps11
  go_wp2_with fail
  generalize w.alloc (.cells #[.string name] 9) = w1 at *
  refine (clone_any v qs (by omega) w1 (SlAt.below H.out HB1.out)).mono ?_
  rintro e w2 ⟨cv, rfl, hrow, hb⟩
  have HR2 := Lib.hid hrow
  have HB2 := Lib.hid (HB1.out.trans (hb.mono HB1.out.size))
  have hnb : w2.heap[w.heap.size]? = some (.cells #[.string name] 9) := (hb.block _ (by have := HZ1.out; omega)).trans HN1.out
  have hnc : w2.cell? ⟨w.heap.size, 0, none⟩ = some (.string name) := by rw [cell_of_blk hnb]; rfl
  have HNB := Lib.hid hnb
  obtain ⟨ao, cap, rfl⟩ := ownsRow_form hrow
  clear hrow hb hnb
  go_wp2_with fail
  refine (parts_any name m w2 ((HB2.out.cell (p := ⟨0, 0, none⟩) hg).trans HM.out)).mono ?_
  rintro e w3 ⟨pv, ps, rfl, hb, _, _⟩
  have HR3 := Lib.hid (show QuRow w3 w1.heap.size (.slice ao qs.length cap) qs from ownsRow_below HR2.out hb)
  have hnb3 : w3.heap[w.heap.size]? = some (.cells #[.string name] 9) := (hb.block _ (Array.getElem?_eq_some_iff.1 HNB.out).1).trans HNB.out
  have hnc3 : w3.cell? ⟨w.heap.size, 0, none⟩ = some (.string name) := by rw [cell_of_blk hnb3]; rfl
  have HNB3 := Lib.hid hnb3
  have HB3 := Lib.hid (HB2.out.trans (hb.mono HB2.out.size))
  clear hb hnb3
  generalize hpn : partsF name.data.toList = pn
  have HPN := Lib.hid hpn
  clear hpn
  by_cases hp0 : pn = 0
  · subst hp0
    have HADD : Hid (addF qs name now len = if ¬ (0 ≤ now ∧ now ≤ maxT ∧ 1 ≤ len ∧ len ≤ maxT) then (qs, 2) else match firstF (fun q => sameN q.name name) qs 0 with
      | .ofNat k => (match qs[k]? with | some q => qs.set k (updF now (endF now len) q) | none => qs, 0)
      | .negSucc _ => (qs ++ [⟨name, now, endF now len⟩], 0)) := by unfold Hid addF; rw [if_neg (by rw [HPN.out]; simp)]
    by_cases hnow : 0 ≤ now ∧ now ≤ maxT
    · obtain ⟨hn0, hn1⟩ := hnow
      unfold maxT at hn1
      by_cases hlen : 1 ≤ len ∧ len ≤ maxT
      · obtain ⟨hl0, hl1⟩ := hlen
        unfold maxT at hl1
        have HADD : Hid (addF qs name now len = match firstF (fun q => sameN q.name name) qs 0 with
          | .ofNat k => (match qs[k]? with | some q => qs.set k (updF now (endF now len) q) | none => qs, 0)
          | .negSucc _ => (qs ++ [⟨name, now, endF now len⟩], 0)) := by unfold Hid; rw [HADD.out, if_neg (by unfold maxT; simp; omega)]
        go_wp2_with fail
        refine (inside_any now 0 1125899906842624 _).mono ?_
        rintro e w4 ⟨rfl, rfl⟩
        rw [show (decide ((0 : Int) ≤ now) && decide (now ≤ 1125899906842624)) = true by simp; omega]
        go_wp2_with fail
        refine (inside_any len 1 1125899906842624 _).mono ?_
        rintro e w5 ⟨rfl, rfl⟩
        rw [show (decide ((1 : Int) ≤ len) && decide (len ≤ 1125899906842624)) = true by simp; omega]
        go_wp2_with fail
        have eg : ∀ args w, (callFunc 28 args).run Tryd.prog w = .ok (.enter 28 args) w := enters_of Tryd.func28 (by kernel_rfl) rfl
        have HE : Hid (min (now + len) 1125899906842624 = endF now len) := rfl
        generalize min (now + len) 1125899906842624 = E at *
        refine (indexFunc_any 28 _ (fun q => sameN q.name name) _ qs (by omega) w5 (QuRow.at HR3.out) (fun q W hW => ?_) eg).mono ?_
        · have h1 := (Array.getElem?_eq_some_iff.1 HNB3.out).1
          exact add1_any q name _ W (Nat.lt_of_lt_of_le h1 hW.size) ((hW.cell (p := ⟨w.heap.size, 0, none⟩) h1).trans hnc3)
        · rintro e w6 ⟨rfl, hb⟩
          have HR6 := Lib.hid (show QuRow w6 w1.heap.size (.slice ao qs.length cap) qs from ownsRow_below HR3.out hb)
          have hnb6 : w6.heap[w.heap.size]? = some (.cells #[.string name] 9) := (hb.block _ (Array.getElem?_eq_some_iff.1 HNB3.out).1).trans HNB3.out
          have hnc6 : w6.cell? ⟨w.heap.size, 0, none⟩ = some (.string name) := by rw [cell_of_blk hnb6]; rfl
          have HB6 := Lib.hid (HB3.out.trans (hb.mono HB3.out.size))
          clear hb hnb6 hnc hnc3
          rcases firstF_cases (fun q => sameN q.name name) qs 0 with ⟨hf, _⟩ | ⟨k, hk, hf, hpk⟩
          · have HADD : Hid (addF qs name now len = (qs ++ [⟨name, now, E⟩], 0)) := by unfold Hid; rw [HADD.out, hf, HE.out]; rfl
            rw [hf]
            clear hf
            obtain ⟨i48, hi48⟩ := Tryd.info48'
            have HI := Lib.hid hi48
            have hz6 := HB6.out.size
            have hz1 := HZ1.out
            clear hi48
            have h4 : ¬ (4096 : Int) ≤ (qs.length : Int) := by omega
            go_wp2_with (at_builtin; refine wpList_append2 rfl _ _ 22 rfl w.heap.size 48 i48 (.agg #[.string ByteArray.empty, .int .i64 0, .int .i64 0]) 3 32 Tryd.underlying22 HI.out rfl (by decide) _ _ _ rfl ((ownsRow_base HR6.out (by omega)).alloc _) ⟨w6.heap.size, 0, none⟩ 1 1 (Qu.cells ⟨name, now, E⟩) rfl rfl (cells_newAt rfl _ 48 (0, 0)) rfl (by unfold maxLen; omega) (by omega) (by simp; omega) ?_)
            intro v' w7 hown hgrow hwh
            obtain ⟨ao', cap', rfl⟩ := ownsRow_form hown
            have HOWN := Lib.hid hown
            have HBG := Lib.hid ((HB6.out.alloc HB6.out.size _).grown hgrow (by simp; omega) (fun j hj => (ownsRow_base HR6.out (by omega) |>.lt j hj).1))
            clear hown hgrow hwh
            go_wp2_with fail
            go_ret2
            refine ⟨_, by rw [HADD.out]; rfl, ?_, HBG.out⟩
            rw [HADD.out]
            refine QuRow.at (base := w.heap.size) ?_
            have := HOWN.out
            unfold QuRow
            rw [List.length_append, List.flatMap_append]
            simpa using this
          · rw [Nat.zero_add] at hf
            have HADD : Hid (addF qs name now len = (qs.set k (updF now E qs[k]), 0)) := by
              unfold Hid; rw [HADD.out, hf, HE.out]
              show ((match qs[k]? with | some q => qs.set k (updF now (endF now len) q) | none => qs), 0) = _
              rw [List.getElem?_eq_getElem hk]
            rw [hf]
            clear hf hpk
            obtain ⟨g, cap', hv, _⟩ := QuRow.open_ HR6.out (by omega)
            injection hv with e1 e2 e3
            subst e1
            obtain ⟨hbg, hgw, hfz, c0, c1, c2, _⟩ := QuRow.lit HR6.out hk
            have z1 := hfz (k * 3 + 1)
            have z2 := hfz (k * 3 + 2)
            have H12 := Lib.hid (fun b => QuRow.set12 HR6.out hk now b)
            have H2 := Lib.hid (fun b => QuRow.set2 HR6.out hk b)
            clear hfz e2 e3
            have hki : (k : Int) < (qs.length : Int) := by omega
            have hz6 := HB6.out.size
            have hz1 := HZ1.out
            generalize qs[k] = q at *
            by_cases hon : q.since ≤ now ∧ now < q.til
            · obtain ⟨o1, o2⟩ := hon
              have HU : Hid (updF now E q = ⟨q.name, q.since, max q.til E⟩) := by
                unfold Hid updF onF; simp [o1, o2]
              have t1 : decide (now < q.since) = false := by simp; omega
              have t2 : decide (q.til ≤ now) = false := by simp; omega
              clear o1 o2
              as_aux_lemma =>
              go_wp2_with fail
              go_ret2
              obtain ⟨hrow, o, hW⟩ := H2.out (max q.til E)
              refine ⟨_, by rw [HADD.out]; rfl, ?_, (HB6.out.trans (hW.below (by omega))).alloc (by have := hW.size; omega) _⟩
              rw [HADD.out, HU.out]
              exact QuRow.at (hrow.alloc _)
            · have HU : Hid (updF now E q = ⟨q.name, now, max q.til E⟩) := by
                unfold Hid updF onF; rw [if_neg (by simpa using hon)]
              by_cases h1 : now < q.since
              · clear hon
                as_aux_lemma =>
                go_wp2_with fail
                go_ret2
                obtain ⟨hrow, o, hW⟩ := H12.out (max q.til E)
                refine ⟨_, by rw [HADD.out]; rfl, ?_, (HB6.out.trans (hW.below (by omega))).alloc (by have := hW.size; omega) _⟩
                rw [HADD.out, HU.out]
                exact QuRow.at (hrow.alloc _)
              · have t1 : decide (now < q.since) = false := by simp; omega
                have t2 : q.til ≤ now := by omega
                clear hon h1
                as_aux_lemma =>
                go_wp2_with fail
                go_ret2
                obtain ⟨hrow, o, hW⟩ := H12.out (max q.til E)
                refine ⟨_, by rw [HADD.out]; rfl, ?_, (HB6.out.trans (hW.below (by omega))).alloc (by have := hW.size; omega) _⟩
                rw [HADD.out, HU.out]
                exact QuRow.at (hrow.alloc _)
      · have HADD : Hid (addF qs name now len = (qs, 2)) := by unfold Hid; rw [HADD.out, if_pos (fun h => hlen ⟨h.2.2.1, h.2.2.2⟩)]
        have hlf : (decide ((1 : Int) ≤ len) && decide (len ≤ 1125899906842624)) = false := by
          rw [Bool.eq_false_iff]; intro h; rw [Bool.and_eq_true, decide_eq_true_eq, decide_eq_true_eq] at h; exact hlen h
        have HLF := Lib.hid hlf
        clear hlf hlen
        go_wp2_with fail
        refine (inside_any now 0 1125899906842624 _).mono ?_
        rintro e w4 ⟨rfl, rfl⟩
        rw [show (decide ((0 : Int) ≤ now) && decide (now ≤ 1125899906842624)) = true by simp; omega]
        go_wp2_with fail
        refine (inside_any len 1 1125899906842624 _).mono ?_
        rintro e w5 ⟨rfl, rfl⟩
        rw [HLF.out]
        go_wp2_with fail
        go_ret2
        exact ⟨_, by rw [HADD.out]; rfl, by rw [HADD.out]; exact QuRow.at HR3.out, HB3.out⟩
    · have HADD : Hid (addF qs name now len = (qs, 2)) := by unfold Hid; rw [HADD.out, if_pos (fun h => hnow ⟨h.1, h.2.1⟩)]
      have hlf : (decide ((0 : Int) ≤ now) && decide (now ≤ 1125899906842624)) = false := by
        rw [Bool.eq_false_iff]; intro h; rw [Bool.and_eq_true, decide_eq_true_eq, decide_eq_true_eq] at h; exact hnow h
      have HLF := Lib.hid hlf
      clear hlf hnow
      go_wp2_with fail
      refine (inside_any now 0 1125899906842624 _).mono ?_
      rintro e w4 ⟨rfl, rfl⟩
      rw [HLF.out]
      go_wp2_with fail
      go_ret2
      exact ⟨_, by rw [HADD.out]; rfl, by rw [HADD.out]; exact QuRow.at HR3.out, HB3.out⟩
  · have HADD : Hid (addF qs name now len = (qs, 1)) := by unfold Hid addF; rw [if_pos (by rw [HPN.out]; exact hp0)]
    have tn : (((pn : Nat) : Int) != 0) = true := by rw [bne_iff_ne]; omega
    clear hp0
    go_wp2_with fail
    go_ret2
    exact ⟨_, by rw [HADD.out]; rfl, by rw [HADD.out]; exact QuRow.at HR3.out, HB3.out⟩
end Go.Proofs.YthnodeicbicjcaaDoor
