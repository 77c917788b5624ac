/- The walks over the reference's Valid, many, fits. -/
import Derived.Test.YtnmbabaihfdljaaRef2
namespace Go.Proofs.Ytnmbabaihfdljaa
open Go.RowKit
open Bs

def rvalidF (l : List UInt8) : Nat := if 4096 < l.length then 3 else if (rels l).isSome then 0 else 5

set_option maxRecDepth 100000 in
set_option maxHeartbeats 400000 in
theorem rvalid_any (s : ByteArray) (hs : s.size ≤ maxLen) (w : World) :
    Calls Try.prog 12 #[.string s] w fun e w' => e = .returned (.int .i64 (rvalidF s.data.toList : Nat)) ∧ Below w.heap.size w w' := by
  have hs' := hs
  unfold maxLen at hs
  have HS := Lib.hid (Lib.size_eq s)
  by_cases h : 4096 < s.size
  · have HF : Hid (rvalidF s.data.toList = 3) := by unfold rvalidF; rw [if_pos (by rw [← HS.out]; exact h)]; rfl
    have h2 : (4096 : Int) < s.size := by omega
    go_enter Try.func12, Try.ntmps12
    go_wp2
    go_ret
    exact ⟨by rw [HF.out]; rfl, Below.refl _ _⟩
  · have h2 : ¬ (4096 : Int) < s.size := by omega
    have HL : Hid (¬ 4096 < s.data.toList.length) := by rw [← HS.out]; exact h
    go_enter Try.func12, Try.ntmps12
    go_wp2_with fail
    refine (elems_any s hs' w).mono ?_
    rintro e w1 ⟨hb, hp⟩
    have HB := Lib.hid hb
    clear hb
    rw [if_neg HL.out] at hp
    cases he : rels s.data.toList with
    | none =>
      rw [he] at hp
      subst hp
      have HF : Hid (rvalidF s.data.toList = 5) := by unfold rvalidF; rw [if_neg HL.out, he]; rfl
      clear he
      go_wp2
      go_ret
      exact ⟨by rw [HF.out]; rfl, HB.out⟩
    | some L =>
      rw [he] at hp
      obtain ⟨v, ps, rfl, _⟩ := hp
      have HF : Hid (rvalidF s.data.toList = 0) := by unfold rvalidF; rw [if_neg HL.out, he]; rfl
      clear he
      go_wp2
      go_ret
      exact ⟨by rw [HF.out]; rfl, HB.out⟩

def RE.many (e : RE) : Bool := e.kind == 1 || e.kind == 2

set_option maxRecDepth 100000 in
set_option maxHeartbeats 400000 in
theorem many_any (E : RE) (sv : Value) (w : World) :
    Calls Try.prog 33 #[.agg #[.int .i64 (E.kind : Nat), sv]] w fun e w' => e = .returned (.bool E.many) ∧ Below w.heap.size w w' := by
  have HM : Hid (E.many = (((E.kind : Nat) : Int) == 1 || ((E.kind : Nat) : Int) == 2)) := by
    unfold RE.many Hid
    congr 1 <;> (rw [Bool.eq_iff_iff, beq_iff_eq, beq_iff_eq]; omega)
  go_enter Try.func33, Try.ntmps33
  go_wp2
  all_goals
    go_ret
    refine ⟨ret_bool (Eq.trans ?_ HM.out.symm), (Below.refl _ _).alloc (Nat.le_refl _) _⟩
    first | rfl | simp [*]

def RE.fits (e : RE) (c : Nat) : Bool :=
  if e.kind = 1 then true else if e.kind ≠ 5 ∧ c = 47 then false else if e.kind = 2 ∨ e.kind = 3 then true else e.items.any fun p => decide (p.1 ≤ c ∧ c ≤ p.2)

theorem flatI_len (p : Nat × Nat) : ([Value.int .u8 (p.1 : Nat), .int .u8 (p.2 : Nat)]).length = 2 := rfl

theorem items_at {w : World} {base : Nat} {sv : Value} {its : List (Nat × Nat)} (h : w.ownsRow base 53 2 sv its.length (flatI its)) {k : Nat} (hk : k < its.length) :
    ∃ g cap, sv = .slice (some ⟨g, 0, none⟩) its.length cap ∧ base ≤ g ∧ g < w.heap.size ∧ w.cell? ⟨g, k * 2, none⟩ = some (.int .u8 (its[k].1 : Nat)) ∧ w.cell? ⟨g, k * 2 + 1, none⟩ = some (.int .u8 (its[k].2 : Nat)) := by
  obtain ⟨g, cap, h1, h2, h3, h4, h5⟩ := ownsRow_at (f := fun p : Nat × Nat => [Value.int .u8 (p.1 : Nat), .int .u8 (p.2 : Nat)]) h flatI_len (by decide) hk
  exact ⟨g, cap, h1, h2, h3, h5 0 _ rfl, h5 1 _ rfl⟩

def FitsRel (its : List (Nat × Nat)) (c : Nat) (R : Bool) (t5 : Value) : Prop :=
  ∃ j, t5 = .int .i64 (j : Nat) ∧ j ≤ its.length ∧ R = (its.drop j).any fun p => decide (p.1 ≤ c ∧ c ≤ p.2)

set_option maxRecDepth 100000 in
set_option maxHeartbeats 800000 in
theorem fits_any (E : RE) (sv : Value) (base : Nat) (c : Nat) (_hc : c < 256) (w : World) (hrow : w.ownsRow base 53 2 sv E.items.length (flatI E.items)) (hlen : E.items.length ≤ 4096) :
    Calls Try.prog 34 #[.agg #[.int .i64 (E.kind : Nat), sv], .int .u8 (c : Nat)] w fun e w' => e = .returned (.bool (E.fits c)) ∧ Below w.heap.size w w' := by
  by_cases h1 : E.kind = 1
  · have t1 : (((E.kind : Nat) : Int) == 1) = true := by simp [h1]
    have HF : Hid (E.fits c = true) := by unfold RE.fits; rw [if_pos h1]; rfl
    clear h1
    go_enter Try.func34, Try.ntmps34
    go_wp2
    go_ret
    exact ⟨by rw [HF.out]; rfl, (Below.refl _ _).alloc (Nat.le_refl _) _⟩
  · have t1 : (((E.kind : Nat) : Int) == 1) = false := by rw [beq_eq_false_iff_ne]; omega
    by_cases h5 : E.kind ≠ 5 ∧ c = 47
    · obtain ⟨h5, h47⟩ := h5
      have t2 : (((E.kind : Nat) : Int) != 5) = true := by rw [bne_iff_ne]; omega
      have t3 : ((c : Int) == 47) = true := by simp [h47]
      have HF : Hid (E.fits c = false) := by unfold RE.fits; rw [if_neg h1, if_pos ⟨h5, h47⟩]; rfl
      clear h1 h5 h47
      go_enter Try.func34, Try.ntmps34
      go_wp2
      go_ret
      exact ⟨by rw [HF.out]; rfl, (Below.refl _ _).alloc (Nat.le_refl _) _⟩
    · have t2 : (((E.kind : Nat) : Int) != 5) = false ∨ ((((E.kind : Nat) : Int) != 5) = true ∧ ((c : Int) == 47) = false) := by
        by_cases h : E.kind = 5
        · left; simp [h]
        · right; refine ⟨by rw [bne_iff_ne]; omega, by rw [beq_eq_false_iff_ne]; intro h'; exact h5 ⟨h, by omega⟩⟩
      by_cases h23 : E.kind = 2 ∨ E.kind = 3
      · have t3 : (((E.kind : Nat) : Int) == 2) = true ∨ ((((E.kind : Nat) : Int) == 2) = false ∧ (((E.kind : Nat) : Int) == 3) = true) := by
          by_cases h : E.kind = 2
          · left; simp [h]
          · right; exact ⟨by rw [beq_eq_false_iff_ne]; omega, by rw [beq_iff_eq]; omega⟩
        have HF : Hid (E.fits c = true) := by unfold RE.fits; rw [if_neg h1, if_neg h5, if_pos h23]; rfl
        clear h1 h5 h23
        rcases t2 with t2 | ⟨t2, t2'⟩ <;> rcases t3 with t3 | ⟨t3, t3'⟩
        all_goals
          go_enter Try.func34, Try.ntmps34
          go_wp2
          go_ret
          exact ⟨by rw [HF.out]; rfl, (Below.refl _ _).alloc (Nat.le_refl _) _⟩
      · have t3 : (((E.kind : Nat) : Int) == 2) = false := by rw [beq_eq_false_iff_ne]; omega
        have t4 : (((E.kind : Nat) : Int) == 3) = false := by rw [beq_eq_false_iff_ne]; omega
        have HF : Hid (E.fits c = E.items.any fun p => decide (p.1 ≤ c ∧ c ≤ p.2)) := by unfold RE.fits; rw [if_neg h1, if_neg h5, if_neg h23]; rfl
        obtain ⟨ao, cap, hsv⟩ := ownsRow_form hrow
        subst hsv
        have HROW := Lib.hid hrow
        clear h1 h5 h23 hrow
        rcases t2 with t2 | ⟨t2, t2'⟩
        all_goals
          go_enter Try.func34, Try.ntmps34
          go_wp2_with fail
          go_loop [5] (FitsRel E.items c (E.items.any fun p => decide (p.1 ≤ c ∧ c ≤ p.2))) (fun t => E.items.length - (intOf t).toNat)
          case atStart => exact ⟨0, rfl, Nat.zero_le _, by simp⟩
          case round =>
            obtain ⟨j, rfl, hj, hR⟩ := hrel
            by_cases hlt : j < E.items.length
            · obtain ⟨g, cap', hsv, hbg, hgw, hc0, hc1⟩ := items_at HROW.out hlt
              injection hsv with e1 e2 e3
              subst e1
              subst e3
              rw [List.drop_eq_getElem_cons hlt, List.any_cons] at hR
              generalize E.items[j] = p at *
              have HR := Lib.hid hR
              clear hR
              by_cases hp1 : p.1 ≤ c
              · by_cases hp2 : c ≤ p.2
                · have HR1 : Hid (E.fits c = true) := by rw [HF.out, HR.out]; simp [hp1, hp2, Hid]
                  go_wp2
                  go_ret
                  exact ⟨by rw [HR1.out]; rfl, (Below.refl _ _).alloc (Nat.le_refl _) _⟩
                · have HR1 : Hid ((E.items.any fun p => decide (p.1 ≤ c ∧ c ≤ p.2)) = (E.items.drop (j + 1)).any fun p => decide (p.1 ≤ c ∧ c ≤ p.2)) := by rw [HR.out]; simp [hp2, Hid]
                  go_wp2
                  go_round
                  case rel => exact ⟨j + 1, by go_num, by omega, HR1.out⟩
                  case measure => simp [intOf]; omega
              · have HR1 : Hid ((E.items.any fun p => decide (p.1 ≤ c ∧ c ≤ p.2)) = (E.items.drop (j + 1)).any fun p => decide (p.1 ≤ c ∧ c ≤ p.2)) := by rw [HR.out]; simp [hp1, Hid]
                go_wp2
                go_round
                case rel => exact ⟨j + 1, by go_num, by omega, HR1.out⟩
                case measure => simp [intOf]; omega
            · have HR1 : Hid (E.fits c = false) := by rw [HF.out, hR, List.drop_of_length_le (by omega)]; rfl
              clear hR
              go_wp2
              go_ret
              exact ⟨by rw [HR1.out]; rfl, (Below.refl _ _).alloc (Nat.le_refl _) _⟩
end Go.Proofs.Ytnmbabaihfdljaa
