/- The walk over duration's Parse, for ASCII texts. -/
import Derived.Test.YtbhhjaflinfnfaaDoorDur1
import Derived.Deep.CutBlock
namespace Go.Proofs.YtbhhjaflinfnfaaDoor
open Go.RowKit

def sameN (a b : ByteArray) : Bool := a.toList == b.toList
def uN (i : Nat) : ByteArray := if i = 0 then ⟨#[100]⟩ else if i = 1 then ⟨#[104]⟩ else if i = 2 then ⟨#[109]⟩ else if i = 3 then ⟨#[115]⟩ else ⟨#[109, 115]⟩
def uMs (i : Nat) : Nat := if i = 0 then 86400000 else if i = 1 then 3600000 else if i = 2 then 60000 else if i = 3 then 1000 else 1
def uMost (i : Nat) : Nat := if i = 0 then 0 else if i = 1 then 24 else if i = 2 then 60 else if i = 3 then 60 else 1000
theorem uMs_le (i : Nat) : uMs i ≤ 86400000 := by unfold uMs; (repeat' split) <;> omega
theorem uMost_le (i : Nat) : uMost i ≤ 1000 := by unfold uMost; (repeat' split) <;> omega

/-- the table of units in memory -/
def UnitsAt (w : World) : Prop := 0 < w.heap.size ∧ ∀ i, i < 5 → w.cell? ⟨0, i * 3, none⟩ = some (.string (uN i)) ∧ w.cell? ⟨0, i * 3 + 1, none⟩ = some (.int .i64 (uMs i : Nat)) ∧ w.cell? ⟨0, i * 3 + 2, none⟩ = some (.int .i64 (uMost i : Nat))
theorem UnitsAt.below {w w1 : World} (h : UnitsAt w) (hb : Below w.heap.size w w1) : UnitsAt w1 := by
  refine ⟨Nat.lt_of_lt_of_le h.1 hb.size, fun i hi => ?_⟩
  obtain ⟨h0, h1, h2⟩ := h.2 i hi
  exact ⟨(hb.cell (p := ⟨0, i * 3, none⟩) h.1).trans h0, (hb.cell (p := ⟨0, i * 3 + 1, none⟩) h.1).trans h1, (hb.cell (p := ⟨0, i * 3 + 2, none⟩) h.1).trans h2⟩

/-- the unit's index from n on, or 5 -/
def findU (name : ByteArray) : Nat → Nat → Nat
  | 0, _ => 5
  | f + 1, n => if n < 5 then if sameN (uN n) name then n else findU name f (n + 1) else 5
theorem findU_ge (name : ByteArray) : ∀ f n, n < 5 + 1 → n + f ≥ 5 → n ≤ findU name f n ∧ findU name f n ≤ 5
  | 0, n, h1, h2 => by rw [findU]; omega
  | f + 1, n, h1, h2 => by
    rw [findU]
    split
    · split
      · omega
      · have := findU_ge name f (n + 1) (by omega) (by omega); omega
    · omega

/-- the sum of the parts, or none where the text is none -/
def pGo : Nat → List UInt8 → Nat → Nat → Option Nat
  | 0, _, _, _ => none
  | f + 1, l, nx, sum =>
    if l = [] then some sum else
      if l.take (cutN l) = [] ∨ (l.take (cutN l)).getD 0 0 = 48 ∨ findU ⟨((l.drop (cutN l)).take (cutE l)).toArray⟩ 5 nx = 5 ∨
        (0 < uMost (findU ⟨((l.drop (cutN l)).take (cutE l)).toArray⟩ 5 nx) ∧ uMost (findU ⟨((l.drop (cutN l)).take (cutE l)).toArray⟩ 5 nx) ≤ numTo (l.take (cutN l)) (l.take (cutN l)).length) then none
      else pGo f (l.drop (cutN l + cutE l)) (findU ⟨((l.drop (cutN l)).take (cutE l)).toArray⟩ 5 nx + 1)
        (min (sum + satMul (numTo (l.take (cutN l)) (l.take (cutN l)).length) (uMs (findU ⟨((l.drop (cutN l)).take (cutE l)).toArray⟩ 5 nx))) 9223372036854775807)

theorem pGo_cons (g : Nat) (l : List UInt8) (nx sum : Nat) (h : ¬ l = []) : pGo (g + 1) l nx sum =
      if l.take (cutN l) = [] ∨ (l.take (cutN l)).getD 0 0 = 48 ∨ findU ⟨((l.drop (cutN l)).take (cutE l)).toArray⟩ 5 nx = 5 ∨
        (0 < uMost (findU ⟨((l.drop (cutN l)).take (cutE l)).toArray⟩ 5 nx) ∧ uMost (findU ⟨((l.drop (cutN l)).take (cutE l)).toArray⟩ 5 nx) ≤ numTo (l.take (cutN l)) (l.take (cutN l)).length) then none
      else pGo g (l.drop (cutN l + cutE l)) (findU ⟨((l.drop (cutN l)).take (cutE l)).toArray⟩ 5 nx + 1)
        (min (sum + satMul (numTo (l.take (cutN l)) (l.take (cutN l)).length) (uMs (findU ⟨((l.drop (cutN l)).take (cutE l)).toArray⟩ 5 nx))) 9223372036854775807) := by
  rw [pGo, if_neg h]

/-- the milliseconds and the number of the error -/
def parseF (l : List UInt8) : Nat × Nat :=
  if l = [48, 115] then (0, 0) else if l = [] then (0, 5) else
    match pGo (l.length + 1) l 0 0 with
    | none => (0, 5)
    | some n => if 1125899906842624 < n then (0, 2) else (n, 0)

theorem digs_mem (b : UInt8) : (digs.data.toList.contains b) = true → 48 ≤ b.toNat ∧ b.toNat ≤ 57 := by
  intro h
  have h2 : b ∈ digs.data.toList := by simpa using h
  have : digs.data.toList.all (fun b => decide (48 ≤ b.toNat ∧ b.toNat ≤ 57)) = true := by decide
  simpa using List.all_eq_true.1 this b h2

theorem take_cut : ∀ l : List UInt8, ∀ c ∈ l.take (cutN l), 48 ≤ c.toNat ∧ c.toNat ≤ 57
  | [], c, h => by simp at h
  | b :: l, c, h => by
    have hle := trim_le l digs.data.toList
    by_cases hb : digs.data.toList.contains b = true
    · have e : Lib.trimLeftS (b :: l) digs.data.toList = Lib.trimLeftS l digs.data.toList := by
        unfold Lib.trimLeftS
        rw [List.dropWhile_cons, if_pos hb]
      have e2 : cutN (b :: l) = cutN l + 1 := by unfold cutN; rw [e, List.length_cons]; omega
      rw [e2, List.take_succ_cons] at h
      rcases List.mem_cons.1 h with rfl | h
      · exact digs_mem _ hb
      · exact take_cut l c h
    · have e : Lib.trimLeftS (b :: l) digs.data.toList = b :: l := by
        unfold Lib.trimLeftS
        rw [List.dropWhile_cons, if_neg hb]
      have e2 : cutN (b :: l) = 0 := by unfold cutN; rw [e]; omega
      rw [e2] at h
      simp at h

def FindRel (w1 : World) (name : ByteArray) (n0 : Nat) (f : Nat) (t5 : Value) (wr : World) : Prop :=
  ∃ k : Nat, t5 = .int .i64 (k : Nat) ∧ k ≤ 5 ∧ f = 5 - k ∧ n0 ≤ k ∧ findU name 5 n0 = findU name (5 - (k - n0)) k ∧ wr = w1

def ParseRel (w1 : World) (s0 : List UInt8) (f : Nat) (t0 t4 t5 : Value) (wr : World) : Prop :=
  ∃ (s : ByteArray) (sum nx g : Nat), t0 = .string s ∧ t4 = .int .i64 (sum : Nat) ∧ t5 = .int .i64 (nx : Nat) ∧ f = s.size ∧ s.size < g ∧ s.size ≤ 1000 ∧ nx ≤ 5 ∧ sum ≤ 9223372036854775807 ∧ asciiF s.data.toList ∧
    pGo (s0.length + 1) s0 0 0 = pGo g s.data.toList nx sum ∧ Below w1.heap.size w1 wr

def ParsePost (l : List UInt8) (w : World) (e : Ending) (w' : World) : Prop :=
  e = .returned (.tuple #[.int .i64 ((parseF l).1 : Nat), .int .i64 ((parseF l).2 : Nat)]) ∧ Below w.heap.size w w'

set_option maxRecDepth 100000 in
set_option maxHeartbeats 1600000 in
theorem parse_any (s : ByteArray) (hs : s.size ≤ 1000) (ha : asciiF s.data.toList) (w : World) (hu : UnitsAt w) : Calls Tryd.prog 9 #[.string s] w (ParsePost s.data.toList w) := by
  have HS := Lib.hid (Lib.size_eq s)
  have HA := Lib.hid ha
  have HU := Lib.hid hu
  clear ha hu
  go_enter Tryd.func9, Tryd.ntmps9
  by_cases h0 : s = ⟨#[48, 115]⟩
  · subst h0
    go_wp2_with fail
    go_ret2
    exact ⟨rfl, Below.refl _ _⟩
  · have hne : (s.toList == [48, 115]) = false := by
      rw [Bool.eq_false_iff]
      intro h
      rw [beq_iff_eq] at h
      apply h0
      have h1 : s.data.toList = [48, 115] := by simpa [ByteArray.toList_eq] using h
      rw [← Lib.mk_data s, h1]
    have HN0 : Hid (¬ s.data.toList = [48, 115]) := fun h => h0 (by rw [← Lib.mk_data s, h])
    clear h0
    by_cases he : s.data.toList = []
    · obtain ⟨hem, hz⟩ := str_nil he
      have HP : Hid (parseF s.data.toList = (0, 5)) := by unfold Hid parseF; rw [if_neg HN0.out, if_pos he]
      clear he
      go_wp2_with fail
      go_ret2
      unfold ParsePost
      rw [HP.out]
      exact ⟨rfl, Below.refl _ _⟩
    · have hem : s.toList.isEmpty = false := by
        cases hl : s.data.toList with
        | nil => exact absurd hl he
        | cons c r => exact (str_cons hl).1
      have HP : Hid (parseF s.data.toList = match pGo (s.data.toList.length + 1) s.data.toList 0 0 with
          | none => (0, 5)
          | some n => if 1125899906842624 < n then (0, 2) else (n, 0)) := by unfold Hid parseF; rw [if_neg HN0.out, if_neg he]
      clear he
      go_wp2_with fail
      go_loopg [0, 4, 5] s.size (ParseRel w s.data.toList)
      case atStart => exact ⟨s, 0, 0, s.data.toList.length + 1, rfl, rfl, rfl, rfl, by have := HS.out; omega, hs, by omega, by omega, HA.out, rfl, Below.refl _ _⟩
      case round =>
        obtain ⟨r, sum, nx, g, rfl, rfl, rfl, rfl, hg, hr, hnx, hsum, hra, hpg, hbel⟩ := hrel
        have HSR := Lib.hid (Lib.size_eq r)
        have HRA := Lib.hid hra
        have HPG := Lib.hid hpg
        have HB := Lib.hid hbel
        have HU1 := Lib.hid (UnitsAt.below HU.out hbel)
        clear hra hpg hbel
        obtain ⟨g, rfl⟩ : ∃ g', g = g' + 1 := ⟨g - 1, by omega⟩
        by_cases hrn : r.data.toList = []
        · obtain ⟨hre, hrz⟩ := str_nil hrn
          have HV : Hid (parseF s.data.toList = if 1125899906842624 < sum then (0, 2) else (sum, 0)) := by
            unfold Hid
            rw [HP.out, HPG.out, pGo, if_pos hrn]
          clear hrn
          by_cases hbig : 1125899906842624 < sum
          · have t1 : (1125899906842624 : Int) < (sum : Int) := by omega
            have HV2 : Hid (parseF s.data.toList = (0, 2)) := by unfold Hid; rw [HV.out, if_pos hbig]
            as_aux_lemma =>
            go_wp2_with fail
            go_ret2
            unfold ParsePost
            rw [HV2.out]
            exact ⟨rfl, HB.out⟩
          · have t1 : ¬ (1125899906842624 : Int) < (sum : Int) := by omega
            have HV2 : Hid (parseF s.data.toList = (sum, 0)) := by unfold Hid; rw [HV.out, if_neg hbig]
            as_aux_lemma =>
            go_wp2_with fail
            go_ret2
            unfold ParsePost
            rw [HV2.out]
            exact ⟨rfl, HB.out⟩
        · have hre : r.toList.isEmpty = false := by
            cases hl : r.data.toList with
            | nil => exact absurd hl hrn
            | cons c t => exact (str_cons hl).1
          have HRN : Hid (¬ r.data.toList = []) := hrn
          clear hrn
          go_wp2_with fail
          refine (cut_any r hr HRA.out wr).mono ?_
          rintro e w2 ⟨rfl, hb⟩
          have HB2 := Lib.hid (HB.out.trans (hb.mono HB.out.size))
          have HU2 := Lib.hid (UnitsAt.below HU1.out hb)
          have hcl := cut_le r.data.toList
          have HTK := Lib.hid (take_cut r.data.toList)
          have HPGU := Lib.hid (pGo_cons g r.data.toList nx sum HRN.out)
          rw [← HSR.out] at hcl
          have HD : Hid ((r.extract 0 (cutN r.data.toList)).data.toList = r.data.toList.take (cutN r.data.toList)) := by
            unfold Hid; rw [Lib.extract_data]; simp
          have HNM : Hid ((r.extract (cutN r.data.toList) (cutN r.data.toList + cutE r.data.toList)) = ⟨((r.data.toList.drop (cutN r.data.toList)).take (cutE r.data.toList)).toArray⟩) := by
            unfold Hid; rw [Lib.extract_eq]; congr 3; omega
          have HRS : Hid ((r.extract (cutN r.data.toList + cutE r.data.toList) r.size).data.toList = r.data.toList.drop (cutN r.data.toList + cutE r.data.toList)) := by
            unfold Hid; rw [Lib.extract_data, List.take_of_length_le (by rw [List.length_drop, ← HSR.out]; omega)]
          have hrs2 : (r.extract (cutN r.data.toList + cutE r.data.toList) r.size).size = r.size - (cutN r.data.toList + cutE r.data.toList) := by rw [ByteArray.size_extract]; omega
          have hds : (r.extract 0 (cutN r.data.toList)).size ≤ 1000 := by rw [ByteArray.size_extract]; omega
          rw [← HNM.out, ← HD.out, ← HRS.out] at HPGU
          rw [← HD.out] at HTK
          have HRA2 : Hid (asciiF (r.extract (cutN r.data.toList + cutE r.data.toList) r.size).data.toList) := trivial
          have hposD : (r.extract 0 (cutN r.data.toList)).data.toList = [] ∨ 0 < cutN r.data.toList := by
            by_cases h : cutN r.data.toList = 0
            · left; rw [HD.out, h]; rfl
            · right; omega
          have HPD := Lib.hid hposD
          clear hb hposD
          generalize r.extract 0 (cutN r.data.toList) = d at *
          generalize r.extract (cutN r.data.toList) (cutN r.data.toList + cutE r.data.toList) = nm at *
          generalize r.extract (cutN r.data.toList + cutE r.data.toList) r.size = rs at *
          generalize cutN r.data.toList = cn at *
          generalize cutE r.data.toList = ce at *
          go_wp2_with fail
          refine (number_any d hds HTK.out w2).mono ?_
          rintro e w3 ⟨rfl, hb⟩
          have HB3 := Lib.hid (HB2.out.trans (hb.mono HB2.out.size))
          have HU3 := Lib.hid (UnitsAt.below HU2.out hb)
          have hnl := numTo_le d.data.toList d.data.toList.length
          clear hb
          generalize numTo d.data.toList d.data.toList.length = v at *
          obtain ⟨nv, okb, hval, hcase⟩ : ∃ (nv : Nat) (okb : Bool), (if d.data.toList = [] ∨ d.data.toList.getD 0 0 = 48 then Value.tuple #[.int .i64 0, .bool false] else .tuple #[.int .i64 (v : Nat), .bool true]) = .tuple #[.int .i64 (nv : Nat), .bool okb] ∧
              ((okb = false ∧ (d.data.toList = [] ∨ d.data.toList.getD 0 0 = 48)) ∨ (okb = true ∧ ¬ (d.data.toList = [] ∨ d.data.toList.getD 0 0 = 48) ∧ nv = v)) := by
            by_cases hbad : d.data.toList = [] ∨ d.data.toList.getD 0 0 = 48
            · exact ⟨0, false, by rw [if_pos hbad]; rfl, .inl ⟨rfl, hbad⟩⟩
            · exact ⟨v, true, by rw [if_neg hbad], .inr ⟨rfl, hbad, rfl⟩⟩
          rw [hval]
          have HC := Lib.hid hcase
          clear hval hcase
          have hfu := findU_ge nm 5 nx (by omega) (by omega)
          go_upto_block 2 with fail
          go_cut [5] (fun s5 wx => s5 = .int .i64 (findU nm 5 nx : Nat) ∧ wx = w3)
          case first =>
            as_aux_lemma =>
            go_wp2_with fail
            go_loopg [5] (5 - nx) (FindRel w3 nm nx)
            case atStart => exact ⟨nx, rfl, hnx, rfl, Nat.le_refl _, by rw [Nat.sub_self], rfl⟩
            case round =>
              obtain ⟨k, rfl, hk5, rfl, hnk, hfk, rfl⟩ := hrel
              have HFK := Lib.hid hfk
              clear hfk
              by_cases hlt : k < 5
              · obtain ⟨c0, _, _⟩ := HU3.out.2 k hlt
                have HST : Hid (findU nm (5 - (k - nx)) k = if sameN (uN k) nm then k else findU nm (5 - (k + 1 - nx)) (k + 1)) := by
                  unfold Hid
                  rw [show 5 - (k - nx) = (5 - (k + 1 - nx)) + 1 by omega, findU, if_pos hlt]
                cases hsm : sameN (uN k) nm with
                | true =>
                  have t1 : (!(uN k).toList == nm.toList) = false := by unfold sameN at hsm; rw [hsm]; rfl
                  have HF : Hid (findU nm 5 nx = k) := by unfold Hid; rw [HFK.out, HST.out, if_pos hsm]
                  clear hsm
                  generalize uN k = un at *
                  go_wp2_with fail
                  go_meet
                  case rel => exact ⟨by rw [HF.out], rfl⟩
                | false =>
                  have t1 : (!(uN k).toList == nm.toList) = true := by unfold sameN at hsm; rw [hsm]; rfl
                  have HF : Hid (findU nm 5 nx = findU nm (5 - (k + 1 - nx)) (k + 1)) := by unfold Hid; rw [HFK.out, HST.out, if_neg (by rw [hsm]; decide)]
                  clear hsm
                  generalize uN k = un at *
                  go_wp2_with fail
                  go_roundg (5 - (k + 1))
                  case measure => omega
                  case rel => exact ⟨k + 1, by go_num, by omega, rfl, by omega, HF.out, rfl⟩
              · have hk : k = 5 := by omega
                subst hk
                have HF : Hid (findU nm 5 nx = 5) := by
                  unfold Hid
                  rw [HFK.out]
                  cases 5 - (5 - nx) <;> rfl
                go_wp2_with fail
                go_meet
                case rel => exact ⟨by rw [HF.out], rfl⟩
          case rest =>
            obtain ⟨rfl, rfl⟩ := hcut
            generalize findU nm 5 nx = u at *
            obtain ⟨hu1, hu5⟩ := hfu
            have HNONE : Hid (∀ (h : d.data.toList = [] ∨ d.data.toList.getD 0 0 = 48 ∨ u = 5 ∨ (0 < uMost u ∧ uMost u ≤ v)), parseF s.data.toList = (0, 5)) := by
              intro h
              rw [HP.out, HPG.out, HPGU.out, if_pos h]
            cases okb with
            | false =>
              have HV : Hid (parseF s.data.toList = (0, 5)) := by
                rcases HC.out with ⟨_, h | h⟩ | ⟨h, _⟩
                · exact HNONE.out (.inl h)
                · exact HNONE.out (.inr (.inl h))
                · cases h
              as_aux_lemma =>
              go_wp2_with fail
              go_ret2
              unfold ParsePost
              rw [HV.out]
              exact ⟨rfl, HB3.out⟩
            | true =>
              obtain ⟨hnb, rfl⟩ : ¬ (d.data.toList = [] ∨ d.data.toList.getD 0 0 = 48) ∧ nv = v := by
                rcases HC.out with ⟨h, _⟩ | ⟨_, h⟩
                · cases h
                · exact h
              have HNB := Lib.hid hnb
              clear hnb HC
              by_cases hu : u = 5
              · have HV : Hid (parseF s.data.toList = (0, 5)) := HNONE.out (.inr (.inr (.inl hu)))
                subst hu
                as_aux_lemma =>
                go_wp2_with fail
                go_ret2
                unfold ParsePost
                rw [HV.out]
                exact ⟨rfl, HB3.out⟩
              · have hu4 : u < 5 := by omega
                have tu : ((u : Int) == 5) = false := by rw [beq_eq_false_iff_ne]; omega
                obtain ⟨c0, c1, c2⟩ := HU3.out.2 u hu4
                have hmo := uMost_le u
                have hms := uMs_le u
                have HPC : Hid (¬ (0 < uMost u ∧ uMost u ≤ nv) → parseF s.data.toList = match pGo g rs.data.toList (u + 1) (min (sum + satMul nv (uMs u)) 9223372036854775807) with
                    | none => (0, 5)
                    | some n => if 1125899906842624 < n then (0, 2) else (n, 0)) := by
                  intro h
                  rw [HP.out, HPG.out, HPGU.out, if_neg]
                  rintro (h1 | h1 | h1 | h1)
                  · exact HNB.out (.inl h1)
                  · exact HNB.out (.inr h1)
                  · exact hu h1
                  · exact h h1
                have HPG2 : Hid (¬ (0 < uMost u ∧ uMost u ≤ nv) → pGo (s.data.toList.length + 1) s.data.toList 0 0 = pGo g rs.data.toList (u + 1) (min (sum + satMul nv (uMs u)) 9223372036854775807)) := by
                  intro h
                  rw [HPG.out, HPGU.out, if_neg]
                  rintro (h1 | h1 | h1 | h1)
                  · exact HNB.out (.inl h1)
                  · exact HNB.out (.inr h1)
                  · exact hu h1
                  · exact h h1
                have HNO2 : Hid (0 < uMost u ∧ uMost u ≤ nv → parseF s.data.toList = (0, 5)) := fun h => HNONE.out (.inr (.inr (.inr h)))
                have hcn : 0 < cn := by
                  rcases HPD.out with h | h
                  · exact (HNB.out (.inl h)).elim
                  · exact h
                have hsm : satMul nv (uMs u) ≤ 9223372036854775807 := by unfold satMul; omega
                clear HPC HNONE HPGU hu
                generalize uMost u = mo at *
                generalize hmsd : uMs u = ms at *
                clear hmsd
                generalize uN u = un at *
                by_cases hm0 : 0 < mo
                · have tm : (0 : Int) < (mo : Int) := by omega
                  by_cases hle : mo ≤ nv
                  · have tl : (mo : Int) ≤ (nv : Int) := by omega
                    have HV : Hid (parseF s.data.toList = (0, 5)) := HNO2.out ⟨hm0, hle⟩
                    as_aux_lemma =>
                    go_wp2_with fail
                    go_ret2
                    unfold ParsePost
                    rw [HV.out]
                    exact ⟨rfl, HB3.out⟩
                  · have tl : decide (mo ≤ nv) = false := by simp; omega
                    have tl2 : nv < mo := by omega
                    have HG := Lib.hid (HPG2.out (fun h => hle h.2))
                    clear HPG2 HNO2 hle
                    as_aux_lemma =>
                    go_wp2_with fail
                    refine (mul_any nv ms hnl (by omega) wc).mono ?_
                    rintro e w4 ⟨rfl, hb⟩
                    have HB4 := Lib.hid (HB3.out.trans (hb.mono HB3.out.size))
                    clear hb
                    go_wp2_with fail
                    refine (numAdd_any _ _ (by unfold isI; omega) (by unfold isI; omega) w4).mono ?_
                    rintro e w5 ⟨rfl, rfl⟩
                    rw [satAdd_nat hsum hsm]
                    go_wp2_with fail
                    go_roundg rs.size
                    case measure => omega
                    case rel => exact ⟨rs, min (sum + satMul nv ms) 9223372036854775807, u + 1, g, rfl, rfl, by go_num, rfl, by omega, by omega, by omega, Nat.min_le_right _ _, HRA2.out, HG.out, HB4.out⟩
                · have HG := Lib.hid (HPG2.out (fun h => hm0 h.1))
                  obtain rfl : mo = 0 := by omega
                  clear HPG2 HNO2 hm0
                  as_aux_lemma =>
                  go_wp2_with fail
                  refine (mul_any nv ms hnl (by omega) wc).mono ?_
                  rintro e w4 ⟨rfl, hb⟩
                  have HB4 := Lib.hid (HB3.out.trans (hb.mono HB3.out.size))
                  clear hb
                  go_wp2_with fail
                  refine (numAdd_any _ _ (by unfold isI; omega) (by unfold isI; omega) w4).mono ?_
                  rintro e w5 ⟨rfl, rfl⟩
                  rw [satAdd_nat hsum hsm]
                  go_wp2_with fail
                  go_roundg rs.size
                  case measure => omega
                  case rel => exact ⟨rs, min (sum + satMul nv ms) 9223372036854775807, u + 1, g, rfl, rfl, by go_num, rfl, by omega, by omega, by omega, Nat.min_le_right _ _, HRA2.out, HG.out, HB4.out⟩
end Go.Proofs.YtbhhjaflinfnfaaDoor
