/- The walk over package glob's Any. -/
import Derived.Test.YtnmbabaihfdljaaMatch2
namespace Go.Proofs.Ytnmbabaihfdljaa
open Go.RowKit
open Bs

def exceptF (p : List UInt8) : Bool := decide (p.head? = some 33)
def bodyF (p : List UInt8) : List UInt8 := if exceptF p then p.drop 1 else p

def ganyTo (ss : List ByteArray) (s : List UInt8) : Nat → Bool
  | 0 => false
  | k + 1 => if gmatchF (bodyF (ss.getD k ByteArray.empty).data.toList) s then !(exceptF (ss.getD k ByteArray.empty).data.toList) else ganyTo ss s k

def GAnyRel (w : World) (ss : List ByteArray) (s : List UInt8) (f : Nat) (t5 : Value) (wr : World) : Prop :=
  ∃ k, t5 = .int .i64 ((k : Nat) - 1 : Int) ∧ k ≤ ss.length ∧ f = k ∧ ganyTo ss s ss.length = ganyTo ss s k ∧ Below w.heap.size w wr

set_option maxRecDepth 100000 in
set_option maxHeartbeats 1600000 in
theorem gany_any (ss : List ByteArray) (v : Value) (s : ByteArray) (hs : s.size ≤ 1000000) (hn : ss.length ≤ 1000000) (hss : ∀ p ∈ ss, p.size ≤ 1000000) (w : World) (hat : StrsAt w v ss) :
    Calls Try.prog 15 #[v, .string s] w fun e w' => e = .returned (.bool (ganyTo ss s.data.toList ss.length)) ∧ Below w.heap.size w w' := by
  obtain ⟨ao, cap, rfl⟩ := hat.form
  have HAT := Lib.hid hat
  have HSS := Lib.hid hss
  clear hat hss
  go_enter Try.func15, Try.ntmps15
  go_wp2_with fail
  go_loopg [5] ss.length (GAnyRel w ss s.data.toList)
  case atStart => exact ⟨ss.length, rfl, Nat.le_refl _, rfl, rfl, Below.refl _ _⟩
  case round =>
    obtain ⟨k, rfl, hk, rfl, hR, hbel⟩ := hrel
    have HBel := Lib.hid hbel
    have HR := Lib.hid hR
    clear hbel hR
    cases gk with
    | zero =>
      go_wp2
      go_ret
      exact ⟨by rw [HR.out]; rfl, HBel.out⟩
    | succ i =>
      have hlt : i < ss.length := by omega
      obtain ⟨b, off, rfl, hc⟩ := (HAT.out.below HBel.out).at_ hlt
      have hi0 : (((i + 1 : Nat) : Int) - 1) = (i : Int) := by omega
      rw [hi0]
      clear hi0
      have hpsz : (ss.getD i ByteArray.empty).size ≤ 1000000 := HSS.out _ (by simp [List.getD, hlt])
      have hsn : ganyTo ss s.data.toList (i + 1) = if gmatchF (bodyF (ss.getD i ByteArray.empty).data.toList) s.data.toList then !(exceptF (ss.getD i ByteArray.empty).data.toList) else ganyTo ss s.data.toList i := rfl
      have HSN := Lib.hid (HR.out.trans hsn)
      clear hsn
      generalize ss.getD i ByteArray.empty = p at *
      have hpm : p.size ≤ maxLen := by unfold maxLen; omega
      by_cases h33 : ∃ h : 0 < p.size, p[0].toNat = 33
      · obtain ⟨hp0, h33⟩ := h33
        have hne : p.toList.isEmpty = false := by
          rw [Lib.toList_data]
          cases hl : p.data.toList with
          | nil => have := Lib.size_eq p; rw [hl, List.length_nil] at this; omega
          | cons c r => rfl
        have t1 : ((p[0].toNat : Int) == 33) = true := by simp [h33]
        have hh : exceptF p.data.toList = true := by
          have := drop_cons (s := p) rfl hp0
          rw [List.drop_zero] at this
          unfold exceptF
          rw [this, u8_of_toNat h33]; rfl
        have HSN1 : Hid (ganyTo ss s.data.toList ss.length = if gmatchF (p.data.toList.drop 1) s.data.toList then false else ganyTo ss s.data.toList i) := by
          rw [HSN.out, bodyF, hh]; rfl
        have hp1 : 1 ≤ p.size := hp0
        clear hh h33 HSN
        go_wp2_with fail
        refine (gmatch_any _ s (by simp; unfold maxLen; omega) hs _).mono ?_
        rintro e w1 ⟨rfl, hb⟩
        rw [Lib.extract_to_end]
        have HB1 := Lib.hid (HBel.out.trans (hb.mono HBel.out.size))
        clear hb
        cases hm : gmatchF (p.data.toList.drop 1) s.data.toList with
        | true =>
          have HR1 : Hid (ganyTo ss s.data.toList ss.length = false) := by rw [HSN1.out, hm]; rfl
          clear hm
          go_wp2
          go_ret
          exact ⟨by rw [HR1.out]; rfl, HB1.out⟩
        | false =>
          have HR1 : Hid (ganyTo ss s.data.toList ss.length = ganyTo ss s.data.toList i) := by rw [HSN1.out, hm]; rfl
          clear hm
          go_wp2
          go_roundg i
          case measure => omega
          case rel => exact ⟨i, rfl, by omega, rfl, HR1.out, HB1.out⟩
      · have hh : exceptF p.data.toList = false := by
          unfold exceptF
          rw [decide_eq_false_iff_not]
          intro h
          by_cases hp0 : 0 < p.size
          · have := drop_cons (s := p) rfl hp0
            rw [List.drop_zero] at this
            rw [this] at h
            simp at h
            exact h33 ⟨hp0, by rw [h]; rfl⟩
          · have : p.data.toList = [] := List.eq_nil_of_length_eq_zero (by rw [← Lib.size_eq]; omega)
            rw [this] at h; cases h
        have hcs : p.toList.isEmpty = true ∨ (p.toList.isEmpty = false ∧ ∃ h : 0 < p.size, ((p[0].toNat : Int) == 33) = false) := by
          by_cases hp0 : 0 < p.size
          · right
            refine ⟨?_, hp0, by rw [beq_eq_false_iff_ne]; intro h; exact h33 ⟨hp0, by omega⟩⟩
            rw [Lib.toList_data]
            cases hl : p.data.toList with
            | nil => have := Lib.size_eq p; rw [hl, List.length_nil] at this; omega
            | cons c r => rfl
          · left
            rw [Lib.toList_data, List.eq_nil_of_length_eq_zero (l := p.data.toList) (by rw [← Lib.size_eq]; omega)]; rfl
        have HSN1 : Hid (ganyTo ss s.data.toList ss.length = if gmatchF p.data.toList s.data.toList then true else ganyTo ss s.data.toList i) := by
          rw [HSN.out, bodyF, hh]; rfl
        clear hh h33 HSN
        rcases hcs with h | ⟨h, h', h''⟩
        all_goals
          go_wp2_with fail
          refine (gmatch_any p s hpm hs _).mono ?_
          rintro e w1 ⟨rfl, hb⟩
          have HB1 := Lib.hid (HBel.out.trans (hb.mono HBel.out.size))
          clear hb
          cases hm : gmatchF p.data.toList s.data.toList with
          | true =>
            have HR1 : Hid (ganyTo ss s.data.toList ss.length = true) := by rw [HSN1.out, hm]; rfl
            clear hm
            go_wp2
            go_ret
            exact ⟨by rw [HR1.out]; rfl, HB1.out⟩
          | false =>
            have HR1 : Hid (ganyTo ss s.data.toList ss.length = ganyTo ss s.data.toList i) := by rw [HSN1.out, hm]; rfl
            clear hm
            go_wp2
            go_roundg i
            case measure => omega
            case rel => exact ⟨i, rfl, by omega, rfl, HR1.out, HB1.out⟩
end Go.Proofs.Ytnmbabaihfdljaa
