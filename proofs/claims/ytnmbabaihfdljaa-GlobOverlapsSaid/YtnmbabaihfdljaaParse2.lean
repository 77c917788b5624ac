/- The walks over package glob's parser: parse, Valid. -/
import Derived.Test.YtnmbabaihfdljaaParse
namespace Go.Proofs.Ytnmbabaihfdljaa
open Go.RowKit
open Bs

/-- the elements of a pattern -/
def parseF : Nat → List UInt8 → Option (List El)
  | 0, _ => none
  | f + 1, l => if l = [] then some [] else match firstF l with
    | none => none
    | some (E, n) => (parseF f (l.drop n)).map (E :: ·)

def els (l : List UInt8) : Option (List El) := parseF (l.length + 1) l

def ParsePost (l : List UInt8) (w : World) (e : Ending) (w' : World) : Prop :=
  Below w.heap.size w w' ∧
  (if 4096 < l.length then e = .returned (.tuple #[.slice none 0 0, .int .i64 3])
   else match els l with
    | none => e = .returned (.tuple #[.slice none 0 0, .int .i64 5])
    | some L => ∃ v, e = .returned (.tuple #[v, .int .i64 0]) ∧ w'.ownsRow w.heap.size 45 7 v L.length (L.flatMap El.cells) ∧ L.length ≤ l.length)

def ParseRel (w : World) (R : Option (List El)) (N : Nat) (f : Nat) (t0 t4 : Value) (wr : World) : Prop :=
  ∃ (q : ByteArray) (L : List El), t0 = .string q ∧ q.size < f ∧ L.length + q.size ≤ N ∧ R = (parseF f q.data.toList).map (L ++ ·) ∧
    wr.ownsRow w.heap.size 45 7 t4 L.length (L.flatMap El.cells) ∧ Below w.heap.size w wr ∧ w.heap.size ≤ wr.heap.size

theorem Try.info45 : (Try.prog.info? 45).map (fun i => (i.zero, i.size, i.bytes)) = some (some (.agg #[.int .u64 0, .int .u64 0, .int .u64 0, .int .u64 0, .bool false, .bool false, .int .u8 0]), 7, 40) := by kernel_rfl

theorem flat_snoc (L : List El) (E : El) : (L ++ [E]).flatMap El.cells = L.flatMap El.cells ++ E.cells := by simp

theorem firstF_le {l : List UInt8} {E : El} {n : Nat} (h : firstF l = some (E, n)) : n ≤ l.length := by
  cases l with
  | nil => simp [firstF] at h
  | cons c r =>
    have hcl : classLen (c :: r) ≤ (c :: r).length := by
      unfold classLen
      split <;> omega
    simp only [firstF] at h
    by_cases h1 : c.toNat = 42
    · rw [if_pos h1] at h
      by_cases h2 : r.head? = some 42
      · rw [if_pos h2] at h
        cases r with
        | nil => cases h2
        | cons d r => simp at h; rw [← h.2]; simp
      · rw [if_neg h2] at h; simp at h; rw [← h.2]; simp
    · rw [if_neg h1] at h
      by_cases h2 : c.toNat = 63
      · rw [if_pos h2] at h; simp at h; rw [← h.2]; simp
      · rw [if_neg h2] at h
        by_cases h3 : c.toNat = 91
        · rw [if_pos h3] at h
          by_cases h4 : classLen (c :: r) = 0
          · rw [if_pos h4] at h; cases h
          · rw [if_neg h4] at h; simp at h; rw [← h.2]; exact hcl
        · rw [if_neg h3] at h
          by_cases h4 : c.toNat = 92
          · rw [if_pos h4] at h
            cases r with
            | nil => cases h
            | cons d r => simp at h; rw [← h.2]; simp
          · rw [if_neg h4] at h; simp at h; rw [← h.2]; simp

set_option maxRecDepth 100000 in
set_option maxHeartbeats 1600000 in
theorem parse_any (s : ByteArray) (hs : s.size ≤ maxLen) (w : World) :
    Calls Try.prog 22 #[.string s] w (ParsePost s.data.toList w) := by
  have hs' := hs
  unfold maxLen at hs
  have hsz := Lib.size_eq s
  obtain ⟨i0, hi, hz0, hz1, hz2⟩ := info_parts Try.info45
  by_cases hlong : 4096 < s.size
  · have HF : Hid (4096 < s.data.toList.length) := by rw [← hsz]; exact hlong
    have h2 : (4096 : Int) < s.size := by omega
    clear hsz hi hz0 hz1 hz2
    go_enter Try.func22, Try.ntmps22
    go_wp2
    go_ret2
    refine ⟨Below.refl _ _, ?_⟩
    rw [if_pos HF.out]; rfl
  · have HF : Hid (¬ 4096 < s.data.toList.length) := by rw [← hsz]; exact hlong
    have h2 : ¬ (4096 : Int) < s.size := by omega
    have HS := Lib.hid hsz
    have HI : Hid (Try.prog.info? 45 = some i0 ∧ i0.zero = some (.agg #[.int .u64 0, .int .u64 0, .int .u64 0, .int .u64 0, .bool false, .bool false, .int .u8 0]) ∧ i0.size = 7 ∧ i0.bytes = 40) := ⟨hi, hz0, hz1, hz2⟩
    clear hsz hi hz0 hz1 hz2
    go_enter Try.func22, Try.ntmps22
    go_wp2_with fail
    go_loopg [0, 4] (s.data.toList.length + 1) (ParseRel w (els s.data.toList) s.size)
    case atStart =>
      exact ⟨s, [], rfl, by rw [← HS.out]; omega, by simp, by simp [els], World.ownsRow_nil _ _ _ _, Below.refl _ _, Nat.le_refl _⟩
    case round =>
      obtain ⟨q, L, rfl, hq1, hq2, hR, hown, hbel, hsz⟩ := hrel
      obtain ⟨g, rfl⟩ : ∃ g, gk = g + 1 := ⟨gk - 1, by omega⟩
      have HR := Lib.hid hR
      have HOWN := Lib.hid hown
      have HBel := Lib.hid hbel
      clear hR hown hbel
      by_cases hq : q.size = 0
      · have hql : q.data.toList = [] := by
          have := Lib.size_eq q
          exact List.eq_nil_of_length_eq_zero (by omega)
        have e1 := (str_nil hql).1
        have HR1 : Hid (els s.data.toList = some L) := by
          rw [HR.out, hql]; simp [parseF, Hid]
        clear hql hq
        go_wp2
        go_ret2
        refine ⟨HBel.out, ?_⟩
        rw [if_neg HF.out, HR1.out]
        refine ⟨u4, rfl, HOWN.out, ?_⟩
        have := HS.out; omega
      · obtain ⟨c, r, hql⟩ : ∃ c r, q.data.toList = c :: r := by
          have := Lib.size_eq q
          cases h : q.data.toList with
          | nil => rw [h, List.length_nil] at this; omega
          | cons c r => exact ⟨c, r, rfl⟩
        have e1 := (str_cons hql).1
        have HR1 : Hid (els s.data.toList = ((match firstF q.data.toList with
            | none => none
            | some (E, n) => (parseF g (q.data.toList.drop n)).map (E :: ·) : Option (List El))).map (L ++ ·)) := by
          have : ¬ q.data.toList = [] := by rw [hql]; simp
          rw [HR.out, parseF, if_neg this]; rfl
        have hqm : 1 ≤ q.size := by omega
        have hqx : q.size ≤ maxLen := by unfold maxLen; omega
        have HQ := Lib.hid (Lib.size_eq q)
        clear hql HR hq
        go_wp2_with fail
        refine (first_any q hqx hqm wr).mono ?_
        rintro e w1 ⟨E, n, rfl, hE, hb⟩
        by_cases hn : n = 0
        · subst hn
          have HR2 : Hid (els s.data.toList = none) := by
            rw [HR1.out]
            cases hf : firstF q.data.toList with
            | none => rfl
            | some x => rw [hf] at hE; exact (hE.2.2 rfl).elim
          have HB := Lib.hid (HBel.out.trans (hb.mono hsz))
          have hsz1 : w.heap.size ≤ w1.heap.size := Nat.le_trans hsz hb.size
          clear hE hb
          go_wp2
          go_ret2
          refine ⟨HB.out.alloc hsz1 _, ?_⟩
          rw [if_neg HF.out, HR2.out]; rfl
        · have hf : firstF q.data.toList = some (E, n) := by
            cases hf : firstF q.data.toList with
            | none => rw [hf] at hE; exact (hn hE).elim
            | some x => rw [hf] at hE; rw [hE.1, hE.2.1]
          have hnl := firstF_le hf
          rw [← HQ.out] at hnl
          have HR2 : Hid (els s.data.toList = (parseF g (q.data.toList.drop n)).map ((L ++ [E]) ++ ·)) := by
            rw [HR1.out, hf]; simp [Option.map_map, Function.comp_def, Hid]
          have HB := Lib.hid (HBel.out.trans (hb.mono hsz))
          have HOWN1 : Hid (w1.ownsRow w.heap.size 45 7 u4 L.length (L.flatMap El.cells)) := ownsRow_below HOWN.out hb
          have hsz1 : w.heap.size ≤ w1.heap.size := Nat.le_trans hsz hb.size
          have hn0 : ((n : Int) == 0) = false := by simp; omega
          have hn1 : 1 ≤ n := by omega
          clear hE hb hf HR1 hn
          go_wp2_with (at_builtin; refine wpList_append_own _ rfl _ _ 34 rfl w.heap.size 45 i0 (.agg #[.int .u64 0, .int .u64 0, .int .u64 0, .int .u64 0, .bool false, .bool false, .int .u8 0]) 7 40 Try.underlying34 HI.out.1 HI.out.2.1 HI.out.2.2.1 HI.out.2.2.2 rfl (by decide) _ _ _ rfl ((HOWN1.out.alloc _).alloc _) ⟨w1.heap.size + 1, 0, none⟩ 1 1 E.cells rfl rfl (cells_newAt (by simp) E.cells 45 (0, 0)) (List.all_eq_true.1 (by rfl)) (by unfold maxLen; omega) (by omega) (by simp; omega) ?_; intro v' w2 hown2 hgrow2 _; have HO2 := Lib.hid hown2; have HG2 := Lib.hid hgrow2; clear hown2 hgrow2)
          go_roundg g
          case measure => omega
          case rel =>
            refine ⟨q.extract n q.size, L ++ [E], rfl, ?_, ?_, ?_, ?_, ?_, ?_⟩
            · simp; omega
            · simp; omega
            · rw [HR2.out, Lib.extract_to_end]
            · rw [flat_snoc, List.length_append]; exact HO2.out
            · refine (((HB.out.alloc hsz1 _).alloc (by simp; omega) _)).grown HG2.out (by simp; omega) ?_
              intro k hk
              exact (HOWN1.out.lt k hk).1
            · have := HG2.out.size; simp at this; omega

/-- the error of a pattern -/
def validF (l : List UInt8) : Nat := if 4096 < l.length then 3 else if (els l).isSome then 0 else 5

set_option maxRecDepth 100000 in
set_option maxHeartbeats 400000 in
theorem valid_any (s : ByteArray) (hs : s.size ≤ maxLen) (w : World) :
    Calls Try.prog 11 #[.string s] w fun e w' => e = .returned (.int .i64 (validF s.data.toList : Nat)) ∧ Below w.heap.size w w' := by
  go_enter Try.func11, Try.ntmps11
  go_wp2_with fail
  refine (parse_any s hs w).mono ?_
  rintro e w1 ⟨hb, hp⟩
  have HB := Lib.hid hb
  clear hb
  by_cases h : 4096 < s.data.toList.length
  · rw [if_pos h] at hp
    subst hp
    have HF : Hid (validF s.data.toList = 3) := by unfold validF; rw [if_pos h]; rfl
    clear h
    go_wp2
    go_ret
    exact ⟨by rw [HF.out]; rfl, HB.out⟩
  · rw [if_neg h] at hp
    cases he : els s.data.toList with
    | none =>
      rw [he] at hp
      subst hp
      have HF : Hid (validF s.data.toList = 5) := by unfold validF; rw [if_neg h, he]; rfl
      clear h he
      go_wp2
      go_ret
      exact ⟨by rw [HF.out]; rfl, HB.out⟩
    | some L =>
      rw [he] at hp
      obtain ⟨v, rfl, _⟩ := hp
      have HF : Hid (validF s.data.toList = 0) := by unfold validF; rw [if_neg h, he]; rfl
      clear h he
      go_wp2
      go_ret
      exact ⟨by rw [HF.out]; rfl, HB.out⟩
end Go.Proofs.Ytnmbabaihfdljaa
