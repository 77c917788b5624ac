/- The walk over the reference's Parse. -/
import Derived.Test.YtbhhjaflinfnfaaDoorRPar0
namespace Go.Proofs.YtbhhjaflinfnfaaDoor
open Go.RowKit

theorem rGo_nil (g : Nat) (nx sum : Nat) (lg : Bool) : rGo (g + 1) [] nx sum lg = some (sum, lg) := by rw [rGo, if_pos rfl]
theorem drop_tw (l : List UInt8) (p : UInt8 → Bool) : l.dropWhile p = l.drop (l.takeWhile p).length := by
  induction l with
  | nil => rfl
  | cons b l ih =>
    rw [List.dropWhile_cons, List.takeWhile_cons]
    by_cases h : p b = true
    · rw [if_pos h, if_pos h, List.length_cons, List.drop_succ_cons, ih]
    · rw [if_neg h, if_neg h]; rfl
theorem tw_le (l : List UInt8) (p : UInt8 → Bool) : (l.takeWhile p).length ≤ l.length := by
  have := congrArg List.length (List.takeWhile_append_dropWhile (p := p) (l := l))
  rw [List.length_append] at this
  omega
def badR (tw : Nat) (c : UInt8) (nx u n : Nat) : Prop := tw = 0 ∨ c = 48 ∨ u < nx ∨ (0 < u ∧ uMost u ≤ n)
theorem rgo_facts (l : List UInt8) (a : Nat) (h : a < l.length) (g nx sum : Nat) (lg : Bool) (tw n : Nat) (c : UInt8) (htw : ((l.drop a).takeWhile isDb).length = tw) (hn : rNum (l.drop a) 0 = n) (hc : l.getD a 0 = c) :
    (rUnit (l.drop (a + tw)) = none → rGo (g + 1) (l.drop a) nx sum lg = none) ∧
    (∀ u, rUnit (l.drop (a + tw)) = some u → badR tw c nx u n → rGo (g + 1) (l.drop a) nx sum lg = none) ∧
    (∀ u, rUnit (l.drop (a + tw)) = some u → ¬ badR tw c nx u n → u = 0 ∧ 13031250 < n → rGo (g + 1) (l.drop a) nx sum lg = rGo g (l.drop (a + tw + (uN u).size)) (u + 1) sum true) ∧
    (∀ u, rUnit (l.drop (a + tw)) = some u → ¬ badR tw c nx u n → ¬ (u = 0 ∧ 13031250 < n) → rGo (g + 1) (l.drop a) nx sum lg = rGo g (l.drop (a + tw + (uN u).size)) (u + 1) (sum + n * uMs u) lg) := by
  have hD := drop_at l a h
  have hne : ¬ l.drop a = [] := by rw [hD]; simp
  have hdw : (l.drop a).dropWhile isDb = l.drop (a + tw) := by rw [drop_tw, htw, List.drop_drop]
  have hbad : ∀ u, badR tw c nx u n ↔ ((l.drop a).takeWhile isDb = [] ∨ (l.drop a).head? = some 48 ∨ u < nx ∨ (0 < u ∧ uMost u ≤ rNum (l.drop a) 0)) := by
    intro u
    have e1 : (l.drop a).head? = some c := by rw [hD, hc]; rfl
    unfold badR
    rw [hn, e1, ← List.length_eq_zero_iff, htw]
    simp
  have hdd : ∀ u, (l.drop (a + tw)).drop (uN u).size = l.drop (a + tw + (uN u).size) := fun u => List.drop_drop
  refine ⟨fun hu => ?_, fun u hu hb => ?_, fun u hu hb h2 => ?_, fun u hu hb h2 => ?_⟩
  · rw [rGo, if_neg hne, hdw, hu]
  · rw [rGo, if_neg hne, hdw, hu]
    exact if_pos ((hbad u).1 hb)
  · rw [rGo, if_neg hne, hdw, hu, ← hdd u]
    rw [← hn] at h2
    exact (if_neg fun k => hb ((hbad u).2 k)).trans (if_pos h2)
  · rw [rGo, if_neg hne, hdw, hu, ← hdd u]
    rw [← hn] at h2 ⊢
    exact (if_neg fun k => hb ((hbad u).2 k)).trans (if_neg h2)
theorem refF_of {l : List UInt8} (h1 : ¬ l = [48, 115]) (h2 : ¬ l = []) : (rGo (l.length + 1) l 0 0 false = none → refF l = (0, 5)) ∧
    ∀ n lg, rGo (l.length + 1) l 0 0 false = some (n, lg) → refF l = if lg = true ∨ 1125899906842624 < n then (0, 2) else (n, 0) := by
  refine ⟨fun h => ?_, fun n lg h => ?_⟩ <;> (unfold refF; rw [if_neg h1, if_neg h2, h])
@[irreducible] def sumB (nx : Nat) : Nat := nx * 1125900000000000
theorem sum_ok {sum nx p : Nat} (h1 : sum ≤ sumB nx) (h2 : nx ≤ 5) (h3 : p ≤ 1125900000000000) : wrap64 (p : Int) = (p : Int) ∧ wrap64 ((sum : Int) + (p : Int)) = (sum : Int) + (p : Int) ∧ wrap64 (sum : Int) = (sum : Int) := by
  unfold sumB at h1
  have h4 : sum ≤ 5629500000000000 := Nat.le_trans h1 (Nat.mul_le_mul_right 1125900000000000 h2)
  clear h1 h2
  exact ⟨wrap_in (by omega) (by omega), wrap_in (by omega) (by omega), wrap_in (by omega) (by omega)⟩
theorem sum_step {sum nx p u : Nat} (h1 : sum ≤ sumB nx) (h2 : nx ≤ u) (h3 : p ≤ 1125900000000000) : sum + p ≤ sumB (u + 1) := by
  unfold sumB at *
  rw [Nat.add_mul, Nat.one_mul]
  exact Nat.add_le_add (Nat.le_trans h1 (Nat.mul_le_mul_right _ h2)) h3
theorem rNum_le : ∀ (l : List UInt8) (n : Nat), n ≤ 99999999 → rNum l n ≤ 99999999
  | [], n, h => h
  | c :: l, n, h => by
    rw [rNum]
    split
    · exact rNum_le l _ (by omega)
    · exact h
theorem uMs_mul {u n : Nat} (hu : u < 5) (h : ¬ (0 < u ∧ uMost u ≤ n)) (hb : ¬ (u = 0 ∧ 13031250 < n)) : n * uMs u ≤ 1125900000000000 := by
  rcases five hu with rfl | rfl | rfl | rfl | rfl
  · have : n ≤ 13031250 := by omega
    have e : uMs 0 = 86400000 := rfl
    rw [e]; omega
  · have e : uMs 1 = 3600000 := rfl
    have m : uMost 1 = 24 := rfl
    rw [m] at h; rw [e]; omega
  · have e : uMs 2 = 60000 := rfl
    have m : uMost 2 = 60 := rfl
    rw [m] at h; rw [e]; omega
  · have e : uMs 3 = 1000 := rfl
    have m : uMost 3 = 60 := rfl
    rw [m] at h; rw [e]; omega
  · have e : uMs 4 = 1 := rfl
    have m : uMost 4 = 1000 := rfl
    rw [m] at h; rw [e]; omega
theorem uN_size2 (u : Nat) : 1 ≤ (uN u).size ∧ (uN u).size ≤ 2 := by unfold uN; (repeat' split) <;> exact ⟨by decide, by decide⟩

def RpRel (w : World) (l : List UInt8) (f : Nat) (t4 t5 t6 t7 : Value) (wr : World) : Prop :=
  ∃ (a sum nx g : Nat) (lg : Bool), t4 = .int .i64 (sum : Nat) ∧ t5 = .int .i64 (a : Nat) ∧ t6 = .int .i64 ((nx : Int) - 1) ∧ t7 = .bool lg ∧ a ≤ l.length ∧ f = l.length - a ∧ l.length - a < g ∧ nx ≤ 5 ∧ sum ≤ sumB nx ∧
    rGo (l.length + 1) l 0 0 false = rGo g (l.drop a) nx sum lg ∧ Below w.heap.size w wr

def RPost (l : List UInt8) (w : World) (e : Ending) (w' : World) : Prop :=
  e = .returned (.tuple #[.int .i64 ((refF l).1 : Nat), .int .i64 ((refF l).2 : Nat)]) ∧ Below w.heap.size w w'

set_option maxRecDepth 100000 in
set_option maxHeartbeats 1000000 in
theorem rparse_any (s : ByteArray) (hs : s.size ≤ 1000) (w : World) : Calls Tryd.prog 10 #[.string s] w (RPost s.data.toList w) := by
  have HS := Lib.hid (Lib.size_eq s)
  go_enter Tryd.func10, Tryd.ntmps10
  by_cases h0 : s = ⟨#[48, 115]⟩
  · subst h0
    go_wp2_with fail
    go_ret2
    exact ⟨rfl, Below.refl _ _⟩
  · have hne : (s.toList == [48, 115]) = false := by
      rw [Bool.eq_false_iff]
      intro h
      rw [beq_iff_eq] at h
      apply h0
      have h1 : s.data.toList = [48, 115] := by simpa [ByteArray.toList_eq] using h
      rw [← Lib.mk_data s, h1]
    have HN0 : Hid (¬ s.data.toList = [48, 115]) := fun h => h0 (by rw [← Lib.mk_data s, h])
    clear h0
    by_cases he : s.data.toList = []
    · obtain ⟨hem, hz⟩ := str_nil he
      have HP : Hid (refF s.data.toList = (0, 5)) := by unfold Hid refF; rw [if_neg HN0.out, if_pos he]
      clear he
      go_wp2_with fail
      go_ret2
      unfold RPost
      rw [HP.out]
      exact ⟨rfl, Below.refl _ _⟩
    · have hem : s.toList.isEmpty = false := by
        cases hl : s.data.toList with
        | nil => exact absurd hl he
        | cons c r => exact (str_cons hl).1
      have HP := Lib.hid (refF_of HN0.out he)
      clear he
      go_wp2_with fail
      go_loopg [4, 5, 6, 7] s.data.toList.length (RpRel w s.data.toList)
      case atStart => exact ⟨0, 0, 0, s.data.toList.length + 1, false, rfl, rfl, rfl, rfl, Nat.zero_le _, rfl, by omega, by decide, Nat.zero_le _, rfl, Below.refl _ _⟩
      case round =>
        obtain ⟨a, sum, nx, g, lg, rfl, rfl, rfl, rfl, ha, rfl, hg, hnx, hsum, hpg, hbel⟩ := hrel
        have HPG := Lib.hid hpg
        have HB := Lib.hid hbel
        have HSUM := Lib.hid hsum
        rw [← HS.out] at ha hg
        clear hpg hbel hsum
        obtain ⟨g, rfl⟩ : ∃ g', g = g' + 1 := ⟨g - 1, by omega⟩
        by_cases hlt : a < s.size
        · have hii : (a : Int) < (s.size : Int) := by omega
          have hata := str_at (s := s) rfl a hlt
          have hnl := rNum_le (s.data.toList.drop a) 0 (by decide)
          have htl := tw_le (s.data.toList.drop a) isDb
          have HF := Lib.hid (rgo_facts s.data.toList a (by rw [← HS.out]; exact hlt) g nx sum lg _ _ _ rfl rfl rfl)
          rw [List.length_drop, ← HS.out] at htl
          go_wp2_with fail
          refine (rnumber_any s hs a ha wr).mono ?_
          rintro e w2 ⟨rfl, rfl⟩
          generalize rNum (s.data.toList.drop a) 0 = n at *
          generalize ((s.data.toList.drop a).takeWhile isDb).length = tw at *
          generalize s.data.toList.getD a 0 = c at *
          obtain ⟨hle, hae⟩ : a + tw ≤ s.size ∧ a ≤ a + tw := by omega
          have h1' : ∀ _ : ¬ a + tw = a, ¬ tw = 0 := fun k => by omega
          have h1z : a + tw = a → tw = 0 := fun k => by omega
          have H1' := Lib.hid h1'
          have H1z := Lib.hid h1z
          clear h1' h1z htl
          generalize a + tw = e at *
          go_wp2_with fail
          refine (runit_any s hs e hle w2).mono ?_
          rintro e w3 ⟨rfl, hb⟩
          have HB3 := Lib.hid (HB.out.trans (hb.mono HB.out.size))
          clear hb
          have HUS : Hid (∀ u, rUnit (s.data.toList.drop e) = some u → u < 5 ∧ (uN u).size + e ≤ s.size) := by
            intro u hu
            obtain ⟨h1, r, h2⟩ := rUnit_some hu
            refine ⟨h1, ?_⟩
            have := congrArg List.length h2
            rw [List.length_drop, List.length_append, ← HS.out, ← uN_len] at this
            have := (uN_size2 u).1
            omega
          have HNIL : Hid (rGo (g + 1) (s.data.toList.drop a) nx sum lg = none → refF s.data.toList = (0, 5)) := fun h => HP.out.1 (by rw [HPG.out, h])
          obtain ⟨z, hz⟩ : ∃ z, rUnit (s.data.toList.drop e) = z := ⟨_, rfl⟩
          rw [hz] at HUS HF
          rw [hz]
          clear hz
          by_cases h1 : e = a
          · have HV : Hid (refF s.data.toList = (0, 5)) := by
              have ht := H1z.out h1
              cases z with
              | none => exact HNIL.out (HF.out.1 rfl)
              | some u => exact HNIL.out (HF.out.2.1 u rfl (.inl ht))
            subst h1
            as_aux_lemma =>
            go_wp2_with fail
            go_ret2
            unfold RPost
            rw [HV.out]
            exact ⟨rfl, HB3.out⟩
          · have h1' := H1'.out h1
            have te : ((e : Int) == (a : Int)) = false := by rw [beq_eq_false_iff_ne]; omega
            by_cases h2 : c = 48
            · have HV : Hid (refF s.data.toList = (0, 5)) := by
                cases z with
                | none => exact HNIL.out (HF.out.1 rfl)
                | some u => exact HNIL.out (HF.out.2.1 u rfl (.inr (.inl h2)))
              subst h2
              as_aux_lemma =>
              go_wp2_with fail
              go_ret2
              unfold RPost
              rw [HV.out]
              exact ⟨rfl, HB3.out⟩
            · have tc : ((c.toNat : Int) == 48) = false := by
                rw [beq_eq_false_iff_ne]
                intro k
                exact h2 (UInt8.toNat_inj.1 (by show c.toNat = 48; omega))
              cases z with
              | none =>
                have HV : Hid (refF s.data.toList = (0, 5)) := HNIL.out (HF.out.1 rfl)
                have hz : unitZ none = -1 := rfl
                rw [hz]
                have tl : (-1 : Int) ≤ (nx : Int) - 1 := by omega
                as_aux_lemma =>
                go_wp2_with fail
                go_ret2
                unfold RPost
                rw [HV.out]
                exact ⟨rfl, HB3.out⟩
              | some u =>
                have hz : unitZ (some u) = (u : Int) := rfl
                rw [hz]
                obtain ⟨hu5, hus⟩ := HUS.out u rfl
                by_cases h3 : u < nx
                · have HV : Hid (refF s.data.toList = (0, 5)) := HNIL.out (HF.out.2.1 u rfl (.inr (.inr (.inl h3))))
                  have tl : (u : Int) ≤ (nx : Int) - 1 := by omega
                  as_aux_lemma =>
                  go_wp2_with fail
                  go_ret2
                  unfold RPost
                  rw [HV.out]
                  exact ⟨rfl, HB3.out⟩
                · have tl : ¬ (u : Int) ≤ (nx : Int) - 1 := by omega
                  have tl2 : (nx : Int) - 1 < (u : Int) := by omega
                  have US : Hid (∀ W, Calls Tryd.prog 26 #[.int .i64 (u : Nat)] W fun e w' => e = .returned (.int .i64 (uMs u : Nat)) ∧ Below W.heap.size W w') := fun W => unitSize_any u hu5 W
                  have UN : Hid (∀ W, Calls Tryd.prog 27 #[.int .i64 (u : Nat)] W fun e w' => e = .returned (.string (uN u)) ∧ Below W.heap.size W w') := fun W => unitName_any u hu5 W
                  have BE : Hid (∀ W, Calls Tryd.prog 25 #[.int .i64 (u : Nat)] W fun e w' => e = .returned (.int .i64 (uMost u : Nat)) ∧ Below W.heap.size W w') := fun W => below_any u hu5 W
                  have hmost := uMost_le u
                  have hms := uMs_le u
                  have hn2 := (uN_size2 u).2
                  have hn1 := (uN_size2 u).1
                  have HMUL := Lib.hid (fun h hb => uMs_mul (n := n) hu5 h hb)
                  by_cases h4 : 0 < u
                  · have tp : (0 : Int) < (u : Int) := by omega
                    have tz : ((u : Int) == 0) = false := by rw [beq_eq_false_iff_ne]; omega
                    by_cases h5 : uMost u ≤ n
                    · have HV : Hid (refF s.data.toList = (0, 5)) := HNIL.out (HF.out.2.1 u rfl (.inr (.inr (.inr ⟨h4, h5⟩))))
                      have tn : (uMost u : Int) ≤ (n : Int) := by omega
                      generalize uMost u = mo at *
                      as_aux_lemma =>
                      go_wp2_with fail
                      refine (BE.out w3).mono ?_
                      rintro e' w4 ⟨rfl, hb⟩
                      have HB4 := Lib.hid (HB3.out.trans (hb.mono HB3.out.size))
                      clear hb
                      go_wp2_with fail
                      go_ret2
                      unfold RPost
                      rw [HV.out]
                      exact ⟨rfl, HB4.out⟩
                    · have tn : ¬ (uMost u : Int) ≤ (n : Int) := by omega
                      have HG : Hid (rGo (g + 1) (s.data.toList.drop a) nx sum lg = rGo g (s.data.toList.drop (e + (uN u).size)) (u + 1) (sum + n * uMs u) lg) := HF.out.2.2.2 u rfl (fun k => k.elim h1' (fun k => k.elim h2 (fun k => k.elim h3 (fun k => h5 k.2)))) (fun k => by omega)
                      have hml : n * uMs u ≤ 1125900000000000 := HMUL.out (fun k => h5 k.2) (fun k => by omega)
                      generalize uMost u = mo at *
                      obtain ⟨ms, hmse⟩ : ∃ ms, uMs u = ms := ⟨_, rfl⟩
                      obtain ⟨un, hune⟩ : ∃ un, uN u = un := ⟨_, rfl⟩
                      rw [hmse] at US hms HG hml
                      rw [hune] at UN HG hus hn1 hn2
                      clear hmse hune HMUL HUS HF HNIL
                      obtain ⟨p, hp⟩ : ∃ p, n * ms = p := ⟨_, rfl⟩
                      have hpi : (n : Int) * (ms : Int) = (p : Int) := by rw [← hp]; push_cast; rfl
                      rw [hp] at HG hml
                      clear hp
                      obtain ⟨w1', w2', w4'⟩ := sum_ok HSUM.out hnx hml
                      have HML := Lib.hid hml
                      clear hml
                      have w3' : wrap64 ((e : Int) + (un.size : Int)) = (e : Int) + (un.size : Int) := wrap_in (by omega) (by omega)
                      have HUS2 := Lib.hid hus
                      have HN1 := Lib.hid hn1
                      have W3 := Lib.hid w3'
                      have H3 := Lib.hid (Nat.le_of_not_lt h3)
                      have HAE := Lib.hid hae
                      clear hus hn1 hn2 h1 h1' w3' h3 hae
                      as_aux_lemma =>
                      go_wp2_with fail
                      refine (BE.out w3).mono ?_
                      rintro e' w4 ⟨rfl, hb⟩
                      have HB4 := Lib.hid (HB3.out.trans (hb.mono HB3.out.size))
                      clear hb
                      go_wp2_with fail
                      refine (US.out _).mono ?_
                      rintro e' w5 ⟨rfl, hb⟩
                      have HB5 := Lib.hid (HB4.out.trans (hb.mono HB4.out.size))
                      clear hb
                      go_wp2_with fail
                      refine (UN.out _).mono ?_
                      rintro e' w6 ⟨rfl, hb⟩
                      have HB6 := Lib.hid (HB5.out.trans (hb.mono HB5.out.size))
                      clear hb
                      go_wp2_with fail
                      go_roundg (s.data.toList.length - (e + un.size))
                      case measure => have := HS.out; have := HUS2.out; have := HN1.out; have := HAE.out; omega
                      case rel => exact ⟨e + un.size, sum + p, u + 1, g, lg, by go_num, by first | (rw [W3.out]; go_num) | (simp only [W3.out]; go_num) | go_num, by go_num, rfl, by have := HS.out; have := HUS2.out; omega, rfl, by have := HS.out; have := HUS2.out; have := HN1.out; have := HAE.out; omega, hu5, sum_step HSUM.out H3.out HML.out, by rw [HPG.out, HG.out], HB6.out⟩
                  · obtain rfl : u = 0 := by omega
                    have tz0 : nx = 0 := by omega
                    by_cases hbig : 13031250 < n
                    · have HG : Hid (rGo (g + 1) (s.data.toList.drop a) nx sum lg = rGo g (s.data.toList.drop (e + (uN 0).size)) (0 + 1) sum true) := HF.out.2.2.1 0 rfl (fun k => k.elim h1' (fun k => k.elim h2 (fun k => k.elim h3 (fun k => by omega)))) ⟨rfl, hbig⟩
                      have tb : (13031250 : Int) < (n : Int) := by omega
                      obtain ⟨ms, hmse⟩ : ∃ ms, uMs 0 = ms := ⟨_, rfl⟩
                      obtain ⟨un, hune⟩ : ∃ un, uN 0 = un := ⟨_, rfl⟩
                      rw [hmse] at US hms
                      rw [hune] at UN HG hus hn1 hn2
                      clear hmse hune HMUL HUS HF HNIL
                      have wz : (0 : Int) * (ms : Int) = 0 := Int.zero_mul _
                      obtain ⟨_, _, w4'⟩ := sum_ok (p := 0) HSUM.out hnx (Nat.zero_le _)
                      have w3' : wrap64 ((e : Int) + (un.size : Int)) = (e : Int) + (un.size : Int) := wrap_in (by omega) (by omega)
                      have HUS2 := Lib.hid hus
                      have HN1 := Lib.hid hn1
                      have W3 := Lib.hid w3'
                      have H3 := Lib.hid (Nat.le_of_not_lt h3)
                      have HAE := Lib.hid hae
                      clear hus hn1 hn2 h1 h1' w3' h3 hae
                      clear tz0 h4
                      as_aux_lemma =>
                      go_wp2_with fail
                      have HB4 := HB3
                      refine (US.out _).mono ?_
                      rintro e' w5 ⟨rfl, hb⟩
                      have HB5 := Lib.hid (HB4.out.trans (hb.mono HB4.out.size))
                      clear hb
                      go_wp2_with fail
                      refine (UN.out _).mono ?_
                      rintro e' w6 ⟨rfl, hb⟩
                      have HB6 := Lib.hid (HB5.out.trans (hb.mono HB5.out.size))
                      clear hb
                      go_wp2_with fail
                      go_roundg (s.data.toList.length - (e + un.size))
                      case measure => have := HS.out; have := HUS2.out; have := HN1.out; have := HAE.out; omega
                      case rel => exact ⟨e + un.size, sum, 0 + 1, g, true, by go_num, by first | (rw [W3.out]; go_num) | (simp only [W3.out]; go_num) | go_num, by go_num, rfl, by have := HS.out; have := HUS2.out; omega, rfl, by have := HS.out; have := HUS2.out; have := HN1.out; have := HAE.out; omega, by decide, sum_step (p := 0) HSUM.out H3.out (Nat.zero_le _), by rw [HPG.out, HG.out], HB6.out⟩
                    · have HG : Hid (rGo (g + 1) (s.data.toList.drop a) nx sum lg = rGo g (s.data.toList.drop (e + (uN 0).size)) (0 + 1) (sum + n * uMs 0) lg) := HF.out.2.2.2 0 rfl (fun k => k.elim h1' (fun k => k.elim h2 (fun k => k.elim h3 (fun k => by omega)))) (fun k => hbig k.2)
                      have hml : n * uMs 0 ≤ 1125900000000000 := HMUL.out (fun k => by omega) (fun k => hbig k.2)
                      have tb : ¬ (13031250 : Int) < (n : Int) := by omega
                      obtain ⟨ms, hmse⟩ : ∃ ms, uMs 0 = ms := ⟨_, rfl⟩
                      obtain ⟨un, hune⟩ : ∃ un, uN 0 = un := ⟨_, rfl⟩
                      rw [hmse] at US hms HG hml
                      rw [hune] at UN HG hus hn1 hn2
                      clear hmse hune HMUL HUS HF HNIL
                      obtain ⟨p, hp⟩ : ∃ p, n * ms = p := ⟨_, rfl⟩
                      have hpi : (n : Int) * (ms : Int) = (p : Int) := by rw [← hp]; push_cast; rfl
                      rw [hp] at HG hml
                      clear hp
                      obtain ⟨w1', w2', w4'⟩ := sum_ok HSUM.out hnx hml
                      have HML := Lib.hid hml
                      clear hml
                      have w3' : wrap64 ((e : Int) + (un.size : Int)) = (e : Int) + (un.size : Int) := wrap_in (by omega) (by omega)
                      have HUS2 := Lib.hid hus
                      have HN1 := Lib.hid hn1
                      have W3 := Lib.hid w3'
                      have H3 := Lib.hid (Nat.le_of_not_lt h3)
                      have HAE := Lib.hid hae
                      clear hus hn1 hn2 h1 h1' w3' h3 hae
                      clear tz0 h4
                      as_aux_lemma =>
                      go_wp2_with fail
                      have HB4 := HB3
                      refine (US.out _).mono ?_
                      rintro e' w5 ⟨rfl, hb⟩
                      have HB5 := Lib.hid (HB4.out.trans (hb.mono HB4.out.size))
                      clear hb
                      go_wp2_with fail
                      refine (UN.out _).mono ?_
                      rintro e' w6 ⟨rfl, hb⟩
                      have HB6 := Lib.hid (HB5.out.trans (hb.mono HB5.out.size))
                      clear hb
                      go_wp2_with fail
                      go_roundg (s.data.toList.length - (e + un.size))
                      case measure => have := HS.out; have := HUS2.out; have := HN1.out; have := HAE.out; omega
                      case rel => exact ⟨e + un.size, sum + p, 0 + 1, g, lg, by go_num, by first | (rw [W3.out]; go_num) | (simp only [W3.out]; go_num) | go_num, by go_num, rfl, by have := HS.out; have := HUS2.out; omega, rfl, by have := HS.out; have := HUS2.out; have := HN1.out; have := HAE.out; omega, by decide, sum_step HSUM.out H3.out HML.out, by rw [HPG.out, HG.out], HB6.out⟩
        · have hk2 : a = s.data.toList.length := by have := HS.out; omega
          have hii : ¬ (a : Int) < (s.size : Int) := by omega
          have HV : Hid (refF s.data.toList = if lg = true ∨ 1125899906842624 < sum then (0, 2) else (sum, 0)) := by
            unfold Hid
            exact HP.out.2 _ _ (by rw [HPG.out, hk2, List.drop_length, rGo_nil])
          clear hk2
          cases lg with
          | true =>
            have HV2 : Hid (refF s.data.toList = (0, 2)) := by unfold Hid; rw [HV.out, if_pos (.inl rfl)]
            go_wp2_with fail
            go_ret2
            unfold RPost
            rw [HV2.out]
            exact ⟨rfl, HB.out⟩
          | false =>
            by_cases hbig : 1125899906842624 < sum
            · have t1 : (1125899906842624 : Int) < (sum : Int) := by omega
              have HV2 : Hid (refF s.data.toList = (0, 2)) := by unfold Hid; rw [HV.out, if_pos (.inr hbig)]
              go_wp2_with fail
              go_ret2
              unfold RPost
              rw [HV2.out]
              exact ⟨rfl, HB.out⟩
            · have t1 : ¬ (1125899906842624 : Int) < (sum : Int) := by omega
              have HV2 : Hid (refF s.data.toList = (sum, 0)) := by unfold Hid; rw [HV.out, if_neg (fun h => h.elim (fun k => by cases k) hbig)]
              go_wp2_with fail
              go_ret2
              unfold RPost
              rw [HV2.out]
              exact ⟨rfl, HB.out⟩
end Go.Proofs.YtbhhjaflinfnfaaDoor
