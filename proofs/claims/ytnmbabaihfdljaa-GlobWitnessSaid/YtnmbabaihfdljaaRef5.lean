/- The walks over the reference's Match, Any, Literal. -/
import Derived.Test.YtnmbabaihfdljaaRef4
namespace Go.Proofs.Ytnmbabaihfdljaa
open Go.RowKit
open Bs

theorem rclsF_len {f : Nat} : ∀ {l : List UInt8} {its its' : List (Nat × Nat)} {r : List UInt8}, rclsF f l its = some (its', r) → its'.length + r.length ≤ its.length + l.length := by
  induction f with
  | zero => intro l its its' r h; cases h
  | succ f ih =>
    intro l its its' r h
    by_cases hh : l.head? = some 93
    · rw [rclsF, if_pos hh] at h
      simp only [Option.some.injEq, Prod.mk.injEq] at h
      obtain ⟨rfl, rfl⟩ := h
      simp
    · rw [rclsF_go f l its hh] at h
      have hb := (charF_bd l).2.2
      by_cases h1 : (charF l).2 = 0
      · rw [if_pos h1] at h; cases h
      · rw [if_neg h1] at h
        by_cases h2 : (l.drop (charF l).2).head? = some 45
        · rw [if_pos h2] at h
          split at h
          · cases h
          · have := ih h; simp at this; omega
        · rw [if_neg h2] at h
          have := ih h; simp at this; omega

theorem relemF_items {F : Nat} {l : List UInt8} {E : RE} {n : Nat} (h : relemF F l = some (E, n)) : E.items.length ≤ l.length := by
  cases l with
  | nil => cases h
  | cons c r =>
    simp only [relemF] at h
    split at h
    · split at h <;> (simp at h; rw [← h.1]; simp)
    · split at h
      · simp at h; rw [← h.1]; simp
      · split at h
        · cases hr : rclsF F r [] with
          | none => rw [hr] at h; cases h
          | some x =>
            obtain ⟨its, rest⟩ := x
            rw [hr] at h
            simp only at h
            split at h
            · cases h
            · simp only [Option.some.injEq, Prod.mk.injEq] at h
              rw [← h.1]
              have := rclsF_len hr
              simp at this ⊢; omega
        · split at h
          · cases r with
            | nil => cases h
            | cons d r => simp at h; rw [← h.1]; simp
          · simp at h; rw [← h.1]; simp

theorem relemsF_items {F f : Nat} : ∀ {l : List UInt8} {L : List RE}, relemsF F f l = some L → ∀ e ∈ L, e.items.length ≤ l.length := by
  induction f with
  | zero => intro l L h; cases h
  | succ f ih =>
    intro l L h e he
    rw [relemsF] at h
    split at h
    · simp at h; subst h; cases he
    · cases hr : relemF F l with
      | none => rw [hr] at h; cases h
      | some x =>
        obtain ⟨E, n⟩ := x
        rw [hr] at h
        simp only at h
        cases hq : relemsF F f (l.drop n) with
        | none => rw [hq] at h; cases h
        | some L' =>
          rw [hq] at h
          simp at h
          subst h
          cases List.mem_cons.1 he with
          | inl h => subst h; exact relemF_items hr
          | inr h => have := ih hq e h; simp at this; omega

def rmatchF (p s : List UInt8) : Bool := if 4096 < p.length then false else match rels p with | none => false | some L => matchF (L.map RE.abs) s

set_option maxRecDepth 100000 in
set_option maxHeartbeats 400000 in
theorem rmatch_any (p s : ByteArray) (hp : p.size ≤ maxLen) (hs : s.size ≤ 1000000) (w : World) :
    Calls Try.prog 14 #[.string p, .string s] w fun e w' => e = .returned (.bool (rmatchF p.data.toList s.data.toList)) ∧ Below w.heap.size w w' := by
  go_enter Try.func14, Try.ntmps14
  go_wp2_with fail
  refine (elems_any p hp w).mono ?_
  rintro e w1 ⟨hb, hq⟩
  have HB := Lib.hid hb
  by_cases h : 4096 < p.data.toList.length
  · rw [if_pos h] at hq
    subst hq
    have HF : Hid (rmatchF p.data.toList s.data.toList = false) := by unfold rmatchF; rw [if_pos h]; rfl
    clear h hb
    go_wp2
    go_ret
    exact ⟨by rw [HF.out]; rfl, HB.out⟩
  · rw [if_neg h] at hq
    cases he : rels p.data.toList with
    | none =>
      rw [he] at hq
      subst hq
      have HF : Hid (rmatchF p.data.toList s.data.toList = false) := by unfold rmatchF; rw [if_neg h, he]; rfl
      clear h he hb
      go_wp2
      go_ret
      exact ⟨by rw [HF.out]; rfl, HB.out⟩
    | some L =>
      rw [he] at hq
      obtain ⟨v, ps, rfl, hat, hL, hlen⟩ := hq
      have HF : Hid (rmatchF p.data.toList s.data.toList = matchF (absP ps) s.data.toList) := by
        unfold rmatchF; rw [if_neg h, he, ← hL]; simp [absP, Function.comp_def, Hid]
      have hit : ∀ q ∈ ps, q.1.items.length ≤ 4096 := by
        intro q hq
        have := relemsF_items he q.1 (by rw [← hL]; exact List.mem_map_of_mem hq)
        omega
      have hpl : ps.length ≤ 4096 := by rw [← hL, List.length_map] at hlen; omega
      have HIT := Lib.hid hit
      have HAT := Lib.hid hat
      clear h he hb hL hlen hit hat
      go_wp2_with fail
      refine (matches_any ps v w.heap.size s hs hpl HIT.out w1 HAT.out).mono ?_
      rintro e w2 ⟨rfl, hb⟩
      have HB2 := Lib.hid (HB.out.trans (hb.mono HB.out.size))
      clear hb
      go_wp2
      go_ret
      exact ⟨by rw [HF.out]; rfl, HB2.out⟩

/-- a slice of strings that can be read -/
def StrsAt (w : World) (v : Value) (ss : List ByteArray) : Prop :=
  (∃ ao cap, v = .slice ao 0 cap ∧ ss = []) ∨ ∃ b off cap, v = .slice (some ⟨b, off, none⟩) ss.length cap ∧ b < w.heap.size ∧ ∀ i, i < ss.length → w.cell? ⟨b, off + i, none⟩ = some (.string (ss.getD i ByteArray.empty))

theorem StrsAt.below {w w1 : World} {v : Value} {ss : List ByteArray} (h : StrsAt w v ss) (hb : Below w.heap.size w w1) : StrsAt w1 v ss := by
  rcases h with h | ⟨b, off, cap, h1, h2, h3⟩
  · exact .inl h
  · exact .inr ⟨b, off, cap, h1, Nat.lt_of_lt_of_le h2 hb.size, fun i hi => by rw [hb.cell (p := ⟨b, off + i, none⟩) h2]; exact h3 i hi⟩

theorem StrsAt.form {w : World} {v : Value} {ss : List ByteArray} (h : StrsAt w v ss) : ∃ ao cap, v = .slice ao ss.length cap := by
  rcases h with ⟨ao, cap, rfl, rfl⟩ | ⟨b, off, cap, h1, _⟩
  · exact ⟨ao, cap, rfl⟩
  · exact ⟨_, _, h1⟩

theorem StrsAt.at_ {w : World} {ao : Option Addr} {n cap : Nat} {ss : List ByteArray} (h : StrsAt w (.slice ao n cap) ss) {i : Nat} (hi : i < ss.length) :
    ∃ b off, ao = some ⟨b, off, none⟩ ∧ w.cell? ⟨b, off + i, none⟩ = some (.string (ss.getD i ByteArray.empty)) := by
  rcases h with ⟨_, _, _, rfl⟩ | ⟨b, off, cap', h1, _, h3⟩
  · cases hi
  · injection h1 with e1 e2 e3
    exact ⟨b, off, e1, h3 i hi⟩

def ranyF (ss : List ByteArray) (s : List UInt8) : Bool :=
  ss.foldl (fun yes p => if p.data.toList.head? = some 33 then (if rmatchF (p.data.toList.drop 1) s then false else yes) else (if rmatchF p.data.toList s then true else yes)) false

def RAnyRel (w : World) (ss : List ByteArray) (s : List UInt8) (f : Nat) (t5 t6 : Value) (wr : World) : Prop :=
  ∃ i, t6 = .int .i64 (i : Nat) ∧ i ≤ ss.length ∧ f = ss.length - i ∧ t5 = .bool (ranyF (ss.take i) s) ∧ Below w.heap.size w wr

theorem ranyF_snoc {ss : List ByteArray} {s : List UInt8} {i : Nat} (hi : i < ss.length) :
    ranyF (ss.take (i + 1)) s = (if (ss.getD i ByteArray.empty).data.toList.head? = some 33 then (if rmatchF ((ss.getD i ByteArray.empty).data.toList.drop 1) s then false else ranyF (ss.take i) s) else (if rmatchF (ss.getD i ByteArray.empty).data.toList s then true else ranyF (ss.take i) s)) := by
  unfold ranyF
  rw [List.take_succ_eq_append_getElem hi, List.foldl_append]
  simp [List.getD, hi]

set_option maxRecDepth 100000 in
set_option maxHeartbeats 1600000 in
theorem rany_any (ss : List ByteArray) (v : Value) (s : ByteArray) (hs : s.size ≤ 1000000) (hn : ss.length ≤ 1000000) (hss : ∀ p ∈ ss, p.size ≤ 1000000) (w : World) (hat : StrsAt w v ss) :
    Calls Try.prog 16 #[v, .string s] w fun e w' => e = .returned (.bool (ranyF ss s.data.toList)) ∧ Below w.heap.size w w' := by
  obtain ⟨ao, cap, rfl⟩ := hat.form
  have HAT := Lib.hid hat
  have HSS := Lib.hid hss
  clear hat hss
  go_enter Try.func16, Try.ntmps16
  go_wp2_with fail
  go_loopg [5, 6] ss.length (RAnyRel w ss s.data.toList)
  case atStart => exact ⟨0, rfl, Nat.zero_le _, rfl, rfl, Below.refl _ _⟩
  case round =>
    obtain ⟨i, rfl, hi, hf, rfl, hbel⟩ := hrel
    have HBel := Lib.hid hbel
    have HF := Lib.hid hf
    clear hbel hf
    by_cases hend : i = ss.length
    · subst hend
      have HR : Hid (ranyF (ss.take ss.length) s.data.toList = ranyF ss s.data.toList) := by rw [List.take_length]; rfl
      go_wp2
      go_ret
      exact ⟨by rw [← HR.out]; rfl, HBel.out⟩
    · have hlt : i < ss.length := by omega
      obtain ⟨b, off, rfl, hc⟩ := (HAT.out.below HBel.out).at_ hlt
      have HSN := Lib.hid (ranyF_snoc (s := s.data.toList) hlt)
      have hpsz : (ss.getD i ByteArray.empty).size ≤ 1000000 := HSS.out _ (by simp [List.getD, hlt])
      generalize ranyF (ss.take i) s.data.toList = yes at *
      generalize ss.getD i ByteArray.empty = p at *
      have hpm : p.size ≤ maxLen := by unfold maxLen; omega
      clear hend
      by_cases h33 : lastF p.data.toList 0 = 33
      · have t1 : ((lastF p.data.toList 0 : Int) == 33) = true := by simp [h33]
        obtain ⟨hp0, _⟩ := lastF_93 h33 (by omega)
        have hh : p.data.toList.head? = some 33 := by
          have := (head_lastF (s := p) (k := 0) 33 (by decide)).2 h33
          simpa using this
        have hsn := HSN.out
        rw [if_pos hh] at hsn
        have HSN1 := Lib.hid hsn
        clear hsn hh h33 HSN
        go_wp2_with (go_at_call 27; refine (last_any p _ (by omega) hpm _).mono ?_; rintro e w' ⟨rfl, rfl⟩)
        refine (rmatch_any _ s (by simp; unfold maxLen; omega) hs _).mono ?_
        rintro e w1 ⟨rfl, hb⟩
        rw [Lib.extract_to_end]
        have HB1 := Lib.hid (HBel.out.trans (hb.mono HBel.out.size))
        clear hb
        cases hm : rmatchF (p.data.toList.drop 1) s.data.toList with
        | true =>
          have HR : Hid (ranyF (ss.take (i + 1)) s.data.toList = false) := by rw [HSN1.out, hm]; rfl
          clear hm
          go_wp2
          go_roundg (ss.length - (i + 1))
          case measure => have := HF.out; omega
          case rel => exact ⟨i + 1, by go_num, by omega, rfl, by rw [HR.out], HB1.out⟩
        | false =>
          have HR : Hid (ranyF (ss.take (i + 1)) s.data.toList = yes) := by rw [HSN1.out, hm]; rfl
          clear hm
          go_wp2
          go_roundg (ss.length - (i + 1))
          case measure => have := HF.out; omega
          case rel => exact ⟨i + 1, by go_num, by omega, rfl, by rw [HR.out], HB1.out⟩
      · have t1 : ((lastF p.data.toList 0 : Int) == 33) = false := by rw [beq_eq_false_iff_ne]; omega
        have hh : ¬ p.data.toList.head? = some 33 := by
          intro h
          exact h33 ((head_lastF (s := p) (k := 0) 33 (by decide)).1 (by simpa using h))
        have hsn := HSN.out
        rw [if_neg hh] at hsn
        have HSN1 := Lib.hid hsn
        clear hsn hh h33 HSN
        go_wp2_with (go_at_call 27; refine (last_any p _ (by omega) hpm _).mono ?_; rintro e w' ⟨rfl, rfl⟩)
        refine (rmatch_any _ s hpm hs _).mono ?_
        rintro e w1 ⟨rfl, hb⟩
        have HB1 := Lib.hid (HBel.out.trans (hb.mono HBel.out.size))
        clear hb
        cases hm : rmatchF p.data.toList s.data.toList with
        | true =>
          have HR : Hid (ranyF (ss.take (i + 1)) s.data.toList = true) := by rw [HSN1.out, hm]; rfl
          clear hm
          go_wp2
          go_roundg (ss.length - (i + 1))
          case measure => have := HF.out; omega
          case rel => exact ⟨i + 1, by go_num, by omega, rfl, by rw [HR.out], HB1.out⟩
        | false =>
          have HR : Hid (ranyF (ss.take (i + 1)) s.data.toList = yes) := by rw [HSN1.out, hm]; rfl
          clear hm
          go_wp2
          go_roundg (ss.length - (i + 1))
          case measure => have := HF.out; omega
          case rel => exact ⟨i + 1, by go_num, by omega, rfl, by rw [HR.out], HB1.out⟩
end Go.Proofs.Ytnmbabaihfdljaa
