/- The plain laws: the program's and the reference's elements match alike. No program in sight. -/
import Derived.Test.YtghahghbahcpfaaGreatDoorVg5
import Derived.Test.YtghahghbahcpfaaGreatDoorVg4
namespace Go.Proofs.YtghahghbahcpfaaGreatDoor.G6
open Bs

theorem testBit_addN (N c n j : Nat) : (addN N c n).testBit j = (N.testBit j || (decide (c ≤ j) && decide (j < c + n))) := by
  induction n with
  | zero =>
    simp only [addN, Nat.add_zero]
    have : ¬ (c ≤ j ∧ j < c) := by omega
    cases h : N.testBit j <;> simp <;> omega
  | succ n ih =>
    rw [addN, testBit_add, ih]
    by_cases h1 : c + n = j
    · subst h1; simp
    · cases N.testBit j with
      | true => simp
      | false =>
        simp only [Bool.false_or]
        rw [Bool.eq_iff_iff]
        simp
        omega

/-- the byte lies in one of the items -/
def inI (its : List (Nat × Nat)) (c : Nat) : Bool := its.any fun p => decide (p.1 ≤ c ∧ c ≤ p.2)

/-- does the set hold just the bytes of the items? -/
def SetOf (N : Nat) (its : List (Nat × Nat)) : Prop := ∀ c, N.testBit c = inI its c

theorem SetOf.add {N : Nat} {its : List (Nat × Nat)} (h : SetOf N its) {a b : Nat} (hab : a ≤ b) : SetOf (addN N a (b + 1 - a)) (its ++ [(a, b)]) := by
  intro c
  rw [testBit_addN, h c]
  unfold inI
  rw [List.any_append]
  congr 1
  rw [Bool.eq_iff_iff]
  simp
  omega

/-- the two parsers of a class go alike -/
theorem cls_same : ∀ (f g : Nat) (l : List UInt8) (b : Bool) (N : Nat) (its : List (Nat × Nat)), l.length < f → l.length < g → SetOf N its → (b = true ↔ its = []) →
    (match clsF f b l N, rclsF g l its with
      | some (N', c :: r), some (its', r') => c = 93 ∧ r = r' ∧ SetOf N' its' ∧ its' ≠ []
      | some (_, []), none => True
      | none, none => True
      | none, some (its', _) => its' = []
      | _, _ => False) := by
  intro f
  induction f with
  | zero => intro g l b N its h; omega
  | succ f ih =>
    intro g l b N its hf hg hs hb
    obtain ⟨g, rfl⟩ : ∃ g', g = g' + 1 := ⟨g - 1, by omega⟩
    by_cases h93 : l.head? = some 93
    · cases l with
      | nil => cases h93
      | cons c r =>
        have hc : c = 93 := by simpa using h93
        subst hc
        have hr : rclsF (g + 1) (93 :: r) its = some (its, r) := by simp [rclsF]
        rw [hr]
        cases b with
        | false =>
          rw [clsF_stop]
          have : its ≠ [] := fun e => by have := hb.2 e; cases this
          exact ⟨rfl, rfl, hs, this⟩
        | true =>
          have hc0 : (charF (93 :: r)).2 = 0 := by simp [charF]
          rw [clsF_go f true _ N (by simp), if_pos hc0]
          exact hb.1 rfl
    · rw [rclsF_go g l its h93]
      by_cases hnil : b = false ∧ l = []
      · obtain ⟨rfl, rfl⟩ := hnil
        have h1 : clsF (f + 1) false [] N = some (N, []) := by simp [clsF]
        have h2 : (charF ([] : List UInt8)).2 = 0 := rfl
        rw [h1, if_pos h2]
        trivial
      · have hm : ¬ (b = false ∧ (l = [] ∨ l.head? = some 93)) := by
          rintro ⟨h1, h2 | h2⟩
          · exact hnil ⟨h1, h2⟩
          · exact h93 h2
        rw [clsF_go f b l N hm]
        by_cases h0 : (charF l).2 = 0
        · rw [if_pos h0, if_pos h0]; trivial
        · rw [if_neg h0, if_neg h0]
          have hle := (charF_bd l).2.2
          by_cases h45 : (l.drop (charF l).2).head? = some 45
          · rw [if_pos h45, if_pos h45]
            by_cases hbad : (charF (l.drop ((charF l).2 + 1))).2 = 0 ∨ (charF (l.drop ((charF l).2 + 1))).1 < (charF l).1
            · rw [if_pos hbad, if_pos hbad]; trivial
            · rw [if_neg hbad, if_neg hbad]
              refine ih g _ false _ _ (by simp; omega) (by simp; omega) (hs.add (by omega)) (by simp)
          · rw [if_neg h45, if_neg h45]
            have := hs.add (Nat.le_refl (charF l).1)
            rw [show (charF l).1 + 1 - (charF l).1 = 1 by omega] at this
            exact ih g _ false _ _ (by simp; omega) (by simp; omega) this (by simp)

/-- the program's element and the reference's match alike -/
def Same (E : El) (e : RE) : Prop := E.many = e.many ∧ (∀ c, c < 256 → E.set.testBit c = e.fits c) ∧ (E.lit = decide (e.kind = 5)) ∧ (e.kind = 5 → e.items = [(E.ch, E.ch)])

theorem full_bit (c : Nat) : full.testBit c = decide (c < 256) := by
  unfold full
  rw [Nat.testBit_two_pow_sub_one]

theorem first_same (F : Nat) (l : List UInt8) (hF : l.length ≤ F) :
    (match firstF l, relemF F l with
      | some (E, n), some (e, m) => n = m ∧ 1 ≤ n ∧ Same E e
      | none, none => True
      | _, _ => False) := by
  cases l with
  | nil => simp [firstF, relemF]
  | cons c r =>
    have hc := c.toNat_lt
    simp only [List.length_cons] at hF
    simp only [firstF, relemF]
    by_cases h1 : c.toNat = 42
    · rw [if_pos h1, if_pos h1]
      by_cases h2 : r.head? = some 42
      · rw [if_pos h2, if_pos h2]
        exact ⟨rfl, by omega, rfl, fun c hc => by rw [full_bit]; simp [RE.fits, hc], rfl, fun h => by cases h⟩
      · rw [if_neg h2, if_neg h2]
        refine ⟨rfl, by omega, rfl, fun c hc => ?_, rfl, fun h => by cases h⟩
        rw [testBit_del, full_bit]
        by_cases h : c = 47 <;> simp [RE.fits, hc, h]
        omega
    · rw [if_neg h1, if_neg h1]
      by_cases h2 : c.toNat = 63
      · rw [if_pos h2, if_pos h2]
        refine ⟨rfl, by omega, rfl, fun c hc => ?_, rfl, fun h => by cases h⟩
        rw [testBit_del, full_bit]
        by_cases h : c = 47 <;> simp [RE.fits, hc, h]
        omega
      · rw [if_neg h2, if_neg h2]
        by_cases h3 : c.toNat = 91
        · rw [if_pos h3, if_pos h3]
          have hcls := cls_same (r.length + 1) F r true 0 [] (by omega) (by omega) (by intro c; simp [inI]) (by simp)
          have e : clsF (c :: r).length true ((c :: r).drop 1) 0 = clsF (r.length + 1) true r 0 := rfl
          unfold classLen classSet
          rw [e]
          cases hq : clsF (r.length + 1) true r 0 with
          | none =>
            rw [hq] at hcls
            cases hr : rclsF F r [] with
            | none => simp
            | some x => rw [hr] at hcls; simp only at hcls; simp [hcls]
          | some y =>
            obtain ⟨N, rest⟩ := y
            rw [hq] at hcls
            cases rest with
            | nil =>
              cases hr : rclsF F r [] with
              | none => simp
              | some x => rw [hr] at hcls; exact hcls.elim
            | cons d rest =>
              cases hr : rclsF F r [] with
              | none => rw [hr] at hcls; exact hcls.elim
              | some x =>
                obtain ⟨its, r'⟩ := x
                rw [hr] at hcls
                obtain ⟨_, rfl, hset, hne⟩ := hcls
                have hlen := rclsF_rest hr
                simp only [List.length_cons]
                rw [if_neg (by omega), if_neg hne]
                refine ⟨rfl, by omega, rfl, fun c hc => ?_, rfl, fun h => by cases h⟩
                rw [testBit_del, hset c]
                by_cases h : c = 47
                · simp [RE.fits, h]
                · simp [RE.fits, h, inI]; omega
        · rw [if_neg h3, if_neg h3]
          by_cases h4 : c.toNat = 92
          · rw [if_pos h4, if_pos h4]
            cases r with
            | nil => trivial
            | cons d r =>
              refine ⟨rfl, by omega, rfl, fun c hc => ?_, rfl, fun _ => rfl⟩
              simp only [litEl, testBit_add, Nat.zero_testBit, Bool.false_or, RE.fits]
              rw [Bool.eq_iff_iff]
              simp
              omega
          · rw [if_neg h4, if_neg h4]
            refine ⟨rfl, by omega, rfl, fun c hc => ?_, rfl, fun _ => rfl⟩
            simp only [litEl, testBit_add, Nat.zero_testBit, Bool.false_or, RE.fits]
            rw [Bool.eq_iff_iff]
            simp
            omega

def SameL : List El → List RE → Prop
  | [], [] => True
  | E :: L, e :: M => Same E e ∧ SameL L M
  | _, _ => False

theorem parse_same (F : Nat) : ∀ (f g : Nat) (l : List UInt8), l.length ≤ F → l.length < f → l.length < g →
    (match parseF f l, relemsF F g l with
      | some L, some M => SameL L M
      | none, none => True
      | _, _ => False) := by
  intro f
  induction f with
  | zero => intro g l _ h; omega
  | succ f ih =>
    intro g l hF hf hg
    obtain ⟨g, rfl⟩ : ∃ g', g = g' + 1 := ⟨g - 1, by omega⟩
    rw [parseF, relemsF]
    by_cases hl : l = []
    · rw [if_pos hl, if_pos hl]; trivial
    · rw [if_neg hl, if_neg hl]
      have h1 := first_same F l hF
      cases hq : firstF l with
      | none =>
        rw [hq] at h1
        cases hr : relemF F l with
        | none => trivial
        | some x => rw [hr] at h1; exact h1.elim
      | some x =>
        obtain ⟨E, n⟩ := x
        rw [hq] at h1
        cases hr : relemF F l with
        | none => rw [hr] at h1; exact h1.elim
        | some y =>
          obtain ⟨e, m⟩ := y
          rw [hr] at h1
          obtain ⟨rfl, hn, hs⟩ := h1
          have hlen : 0 < l.length := List.length_pos_iff.2 hl
          have h2 := ih g (l.drop n) (by simp; omega) (by simp; omega) (by simp; omega)
          simp only
          cases hq2 : parseF f (l.drop n) with
          | none =>
            rw [hq2] at h2
            cases hr2 : relemsF F g (l.drop n) with
            | none => trivial
            | some y => rw [hr2] at h2; exact h2.elim
          | some L =>
            rw [hq2] at h2
            cases hr2 : relemsF F g (l.drop n) with
            | none => rw [hr2] at h2; exact h2.elim
            | some M => rw [hr2] at h2; exact ⟨hs, h2⟩

theorem els_same (l : List UInt8) :
    (match els l, rels l with
      | some L, some M => SameL L M
      | none, none => True
      | _, _ => False) := parse_same (l.length + 1) (l.length + 1) (l.length + 1) l (by omega) (by omega) (by omega)
abbrev noA : AE := (false, fun _ => false)

/-- two rows of elements that match alike -/
structure Alike (A B : List AE) : Prop where
  len : A.length = B.length
  many : ∀ i, (A.getD i noA).1 = (B.getD i noA).1
  fits : ∀ i c, c < 256 → (A.getD i noA).2 c = (B.getD i noA).2 c

theorem SameL.length : ∀ {L : List El} {M : List RE}, SameL L M → L.length = M.length
  | [], [], _ => rfl
  | _ :: _, _ :: _, h => by simp [SameL.length h.2]
  | [], _ :: _, h => h.elim
  | _ :: _, [], h => h.elim

theorem SameL.get : ∀ {L : List El} {M : List RE}, SameL L M → ∀ i, ((absE L).getD i noA).1 = ((M.map RE.abs).getD i noA).1 ∧ ∀ c, c < 256 → ((absE L).getD i noA).2 c = ((M.map RE.abs).getD i noA).2 c
  | [], [], _, i => by simp
  | E :: L, e :: M, h, 0 => by
    obtain ⟨⟨h1, h2, h3, h4⟩, _⟩ := h
    refine ⟨h1, h2⟩
  | E :: L, e :: M, h, i + 1 => by
    have := SameL.get h.2 i
    simpa [absE] using this
  | [], _ :: _, h, _ => h.elim
  | _ :: _, [], h, _ => h.elim

theorem SameL.alike {L : List El} {M : List RE} (h : SameL L M) : Alike (absE L) (M.map RE.abs) :=
  ⟨by simp [absE, h.length], fun i => (h.get i).1, fun i => (h.get i).2⟩

theorem closeTo_alike {A B : List AE} (h : Alike A B) (on : List Bool) (k : Nat) : closeTo A on k = closeTo B on k := by
  induction k with
  | zero => rfl
  | succ k ih => rw [closeTo, closeTo, ih, h.many k]

theorem stepTo_alike {A B : List AE} (h : Alike A B) (on : List Bool) (c : Nat) (hc : c < 256) (k : Nat) : stepTo A on c k = stepTo B on c k := by
  induction k with
  | zero => rw [stepTo, stepTo, h.len]
  | succ k ih => rw [stepTo, stepTo, ih, h.many k, h.fits k c hc]

theorem onAt_alike {A B : List AE} (h : Alike A B) (l : List UInt8) (k : Nat) : onAt A l k = onAt B l k := by
  induction k with
  | zero => rw [onAt, onAt, h.len]
  | succ k ih => rw [onAt, onAt, ih, closeTo_alike h, h.len, stepTo_alike h _ _ (UInt8.toNat_lt _)]

theorem matchF_alike {A B : List AE} (h : Alike A B) (l : List UInt8) : matchF A l = matchF B l := by
  unfold matchF
  rw [onAt_alike h, closeTo_alike h, h.len]

theorem gmatch_same (p s : List UInt8) : gmatchF p s = rmatchF p s := by
  unfold gmatchF rmatchF
  split
  · rfl
  · have h := els_same p
    cases h1 : els p <;> cases h2 : rels p <;> rw [h1, h2] at h
    · exact h.elim
    · exact h.elim
    · exact matchF_alike h.alike s

theorem gany_same (ss : List ByteArray) (s : List UInt8) : ∀ k, k ≤ ss.length → ganyTo ss s k = ranyF (ss.take k) s := by
  intro k
  induction k with
  | zero => intro _; rfl
  | succ k ih =>
    intro hk
    rw [ranyF_snoc (by omega), ← ih (by omega), ganyTo]
    have e : ss.getD k ByteArray.empty = ss[k] := by simp [List.getD, show k < ss.length by omega]
    rw [e]
    by_cases h : ss[k].data.toList.head? = some 33
    · have h' : exceptF ss[k].data.toList = true := by simp [exceptF, h]
      rw [bodyF, if_pos h', h', if_pos h, gmatch_same]
      rfl
    · have h' : exceptF ss[k].data.toList = false := by simp [exceptF, h]
      have e2 : bodyF ss[k].data.toList = ss[k].data.toList := by rw [bodyF, h']; rfl
      rw [e2, h', if_neg h, gmatch_same]
      rfl
end Go.Proofs.YtghahghbahcpfaaGreatDoor.G6
