/- The walks over every and Name of package ident, Name of the reference. -/
import Derived.Test.YtngbjnjkcniabaaGreatDoorIdent1
import Derived.Lib.ConvBytes
namespace Go.Proofs.YtngbjnjkcniabaaGreatDoor
open Go.RowKit

theorem bytesWorld_below (w : World) (e : TypeId) (s : ByteArray) : Below w.heap.size w (Lib.bytesWorld w e s) :=
  ⟨rfl, rfl, rfl, by rw [Lib.bytesWorld_size]; omega, fun k hk => Lib.bytesWorld_at_old w e s k hk⟩

/-- the bytes of a string in memory -/
def BytesAt (w : World) (b : Nat) (l : List UInt8) : Prop := b < w.heap.size ∧ ∀ i, i < l.length → w.cell? ⟨b, i, none⟩ = some (.int .u8 ((l.getD i 0).toNat : Nat))
theorem BytesAt.below {w w1 : World} {b : Nat} {l : List UInt8} (h : BytesAt w b l) (hb : Below w.heap.size w w1) : BytesAt w1 b l :=
  ⟨Nat.lt_of_lt_of_le h.1 hb.size, fun i hi => (hb.cell (p := ⟨b, i, none⟩) h.1).trans (h.2 i hi)⟩

theorem getD_zero {l : List UInt8} (h : 0 < l.length) : ∃ c r, l = c :: r ∧ l.getD 0 0 = c := by
  cases l with
  | nil => cases h
  | cons c r => exact ⟨c, r, rfl, rfl⟩

def allTo (l : List UInt8) (k : Nat) : Bool := (List.range k).all (atF l)
theorem allTo_succ (l : List UInt8) (k : Nat) : allTo l (k + 1) = (allTo l k && atF l k) := by
  unfold allTo; rw [List.range_succ, List.all_append]; simp
theorem allTo_no {l : List UInt8} {k n : Nat} (h : atF l k = false) (hk : k < n) : allTo l n = false := by
  unfold allTo
  rw [Bool.eq_false_iff]
  intro h2
  rw [List.all_eq_true] at h2
  have := h2 k (by simpa using hk)
  rw [h] at this; cases this

def EvRel (w1 : World) (l : List UInt8) (f : Nat) (t9 : Value) (wr : World) : Prop :=
  ∃ k : Nat, t9 = .int .i64 (k : Nat) ∧ k ≤ l.length ∧ f = l.length - k ∧ allTo l k = true ∧ wr = w1

set_option maxRecDepth 100000 in
set_option maxHeartbeats 800000 in
theorem every_bytes (b cap : Nat) (l : List UInt8) (hl : l.length ≤ 1000000) (w : World) (h : BytesAt w b l) :
    Calls Tryz.prog 118 #[.slice (some ⟨b, 0, none⟩) l.length cap, .func (.func 119) #[] #[]] w fun e w' => e = .returned (.bool (allTo l l.length)) ∧ w' = w := by
  have H := Lib.hid h
  clear h
  go_enter Tryz.func118, Tryz.ntmps118
  go_wp2_with fail
  go_loopg [9] l.length (EvRel w l)
  case atStart => exact ⟨0, rfl, Nat.zero_le _, rfl, rfl, rfl⟩
  case round =>
    obtain ⟨k, rfl, hk, rfl, hall, rfl⟩ := hrel
    have HALL := Lib.hid hall
    clear hall
    by_cases hlt : k < l.length
    · have hc := H.out.2 k hlt
      have hii : (k : Int) < (l.length : Int) := by omega
      have HAT : Hid (atF l k = okF k (l.getD k 0)) := rfl
      generalize l.getD k 0 = c at *
      go_wp2_with fail
      refine (name1_any k c _).mono ?_
      rintro e w1 ⟨rfl, rfl⟩
      cases hok : okF k c with
      | true =>
        have HA : Hid (allTo l (k + 1) = true) := by unfold Hid; rw [allTo_succ, HALL.out, HAT.out, hok]; rfl
        clear hok
        go_wp2_with fail
        go_roundg (l.length - (k + 1))
        case measure => omega
        case rel => exact ⟨k + 1, by go_num, by omega, rfl, HA.out, rfl⟩
      | false =>
        have HA : Hid (allTo l l.length = false) := allTo_no (by rw [HAT.out, hok]) hlt
        clear hok
        go_wp2_with fail
        go_ret
        exact ⟨by rw [HA.out]; rfl, rfl⟩
    · have he : k = l.length := by omega
      subst he
      go_wp2_with fail
      go_ret
      exact ⟨by rw [HALL.out]; rfl, rfl⟩

theorem nameF_eq (l : List UInt8) : nameF l = (decide (0 < l.length) && decide (l.length ≤ 64) && allTo l l.length) := rfl

set_option maxRecDepth 100000 in
set_option maxHeartbeats 800000 in
theorem name_any (s : ByteArray) (w : World) : Calls Tryz.prog 80 #[.string s] w fun e w' => e = .returned (.bool (nameF s.data.toList)) ∧ Below w.heap.size w w' := by
  have HS := Lib.hid (Lib.size_eq s)
  go_enter Tryz.func80, Tryz.ntmps80
  by_cases hl0 : 0 < s.size
  · by_cases h64 : s.size ≤ 64
    · have HN : Hid (nameF s.data.toList = allTo s.data.toList s.data.toList.length) := by
        unfold Hid; rw [nameF_eq, ← HS.out]; simp [hl0, h64]
      have h64i : (s.size : Int) ≤ 64 := by omega
      have hrun := Lib.run_convert_string_bytes (P := Tryz.prog) w 9 38 5 s Tryz.underlying9 Tryz.underlying38 Tryz.underlying5
      have HB := Lib.hid (bytesWorld_below w 5 s)
      have hat : BytesAt (Lib.bytesWorld w 5 s) w.heap.size s.data.toList := ⟨by rw [Lib.bytesWorld_size]; omega, fun i hi => Lib.bytesWorld_cell w 5 s i (by rw [HS.out]; exact hi)⟩
      have HAT := Lib.hid hat
      clear hat
      generalize Lib.bytesWorld w 5 s = w1 at *
      generalize grownCap w s.size 0 5 = cap at *
      go_wp2_with fail
      rw [HS.out]
      refine (every_bytes _ cap s.data.toList (by rw [← HS.out]; omega) w1 HAT.out).mono ?_
      rintro e w2 ⟨rfl, rfl⟩
      rw [← HN.out]
      go_wp2_with fail
      go_ret
      exact ⟨rfl, HB.out⟩
    · have HN : Hid (nameF s.data.toList = false) := by
        unfold Hid; rw [nameF_eq, ← HS.out]; simp [h64]
      have h64i : decide ((s.size : Int) ≤ 64) = false := by simp; omega
      go_wp2_with fail
      go_ret
      exact ⟨by rw [HN.out]; rfl, Below.refl _ _⟩
  · have HN : Hid (nameF s.data.toList = false) := by
      unfold Hid; rw [nameF_eq, ← HS.out]; simp [hl0]
    have hl0' : s.size = 0 := by omega
    go_wp2_with fail
    go_ret
    exact ⟨by rw [HN.out]; rfl, Below.refl _ _⟩

set_option maxRecDepth 100000 in
theorem names1_any (i : Int) (s : ByteArray) (w : World) : Calls Tryz.prog 79 #[.int .i64 i, .string s] w fun e w' => e = .returned (.bool (nameF s.data.toList)) ∧ Below w.heap.size w w' := by
  go_enter Tryz.func79, Tryz.ntmps79
  go_wp2_with fail
  refine (name_any s w).mono ?_
  rintro e w1 ⟨rfl, hb⟩
  have HB := Lib.hid hb
  clear hb
  go_wp2_with fail
  go_ret
  exact ⟨rfl, HB.out⟩

/-- a slice of strings that can be read -/
def StrsAt (w : World) (v : Value) (ss : List ByteArray) : Prop :=
  (∃ ao cap, v = .slice ao 0 cap ∧ ss = []) ∨ ∃ b off cap, v = .slice (some ⟨b, off, none⟩) ss.length cap ∧ b < w.heap.size ∧ ss.length ≤ cap ∧ ∀ i, i < ss.length → w.cell? ⟨b, off + i, none⟩ = some (.string (ss.getD i ByteArray.empty))

theorem StrsAt.below {w w1 : World} {v : Value} {ss : List ByteArray} (h : StrsAt w v ss) (hb : Below w.heap.size w w1) : StrsAt w1 v ss := by
  rcases h with h | ⟨b, off, cap, h1, h2, hc, h3⟩
  · exact .inl h
  · exact .inr ⟨b, off, cap, h1, Nat.lt_of_lt_of_le h2 hb.size, hc, fun i hi => by rw [hb.cell (p := ⟨b, off + i, none⟩) h2]; exact h3 i hi⟩

theorem StrsAt.form {w : World} {v : Value} {ss : List ByteArray} (h : StrsAt w v ss) : ∃ ao cap, v = .slice ao ss.length cap := by
  rcases h with ⟨ao, cap, rfl, rfl⟩ | ⟨b, off, cap, rfl, h2, _, h3⟩
  · exact ⟨_, _, rfl⟩
  · exact ⟨_, _, rfl⟩

/-- the element k of such a slice -/
theorem StrsAt.at_ {w : World} {ao : Option Addr} {n cap : Nat} {ss : List ByteArray} (h : StrsAt w (.slice ao n cap) ss) {k : Nat} (hk : k < ss.length) :
    ∃ b off, ao = some ⟨b, off, none⟩ ∧ b < w.heap.size ∧ w.cell? ⟨b, off + k, none⟩ = some (.string (ss.getD k ByteArray.empty)) := by
  rcases h with ⟨ao, cap, _, rfl⟩ | ⟨b, off, cap, e, h2, _, h3⟩
  · cases hk
  · injection e with e1 e2 e3
    exact ⟨b, off, e1, h2, h3 k hk⟩

def allN (ss : List ByteArray) (k : Nat) : Bool := (ss.take k).all fun s => nameF s.data.toList
theorem allN_succ {ss : List ByteArray} {k : Nat} (hk : k < ss.length) : allN ss (k + 1) = (allN ss k && nameF (ss.getD k ByteArray.empty).data.toList) := by
  unfold allN
  rw [List.take_add_one, List.all_append, List.getElem?_eq_getElem hk]
  simp [List.getD, hk]
theorem allN_no {ss : List ByteArray} {k : Nat} (hk : k < ss.length) (h : nameF (ss.getD k ByteArray.empty).data.toList = false) : allN ss ss.length = false := by
  unfold allN
  rw [Bool.eq_false_iff]
  intro h2
  rw [List.take_length, List.all_eq_true] at h2
  have := h2 _ (List.getElem_mem hk)
  simp [List.getD, hk] at h
  rw [h] at this; cases this

def EvSRel (w1 : World) (ss : List ByteArray) (f : Nat) (t9 : Value) (wr : World) : Prop :=
  ∃ k : Nat, t9 = .int .i64 (k : Nat) ∧ k ≤ ss.length ∧ f = ss.length - k ∧ allN ss k = true ∧ Below w1.heap.size w1 wr

set_option maxRecDepth 100000 in
set_option maxHeartbeats 800000 in
theorem every_strings (v : Value) (ss : List ByteArray) (hl : ss.length ≤ 1000000) (w : World) (h : StrsAt w v ss) :
    Calls Tryz.prog 78 #[v, .func (.func 79) #[] #[]] w fun e w' => e = .returned (.bool (allN ss ss.length)) ∧ Below w.heap.size w w' := by
  obtain ⟨ao, cap, rfl⟩ := h.form
  have H := Lib.hid h
  clear h
  go_enter Tryz.func78, Tryz.ntmps78
  go_wp2_with fail
  go_loopg [9] ss.length (EvSRel w ss)
  case atStart => exact ⟨0, rfl, Nat.zero_le _, rfl, rfl, Below.refl _ _⟩
  case round =>
    obtain ⟨k, rfl, hk, rfl, hall, hbel⟩ := hrel
    have HALL := Lib.hid hall
    have HBEL := Lib.hid hbel
    clear hall hbel
    by_cases hlt : k < ss.length
    · obtain ⟨b, off, rfl, hbl, hc⟩ := (H.out.below HBEL.out).at_ hlt
      have hii : (k : Int) < (ss.length : Int) := by omega
      have HAS := Lib.hid (allN_succ hlt)
      have HAN := Lib.hid (fun h => allN_no (ss := ss) hlt h)
      generalize ss.getD k ByteArray.empty = s at *
      go_wp2_with fail
      refine (names1_any _ s _).mono ?_
      rintro e w1 ⟨rfl, hb⟩
      have HB := Lib.hid (HBEL.out.trans (hb.mono HBEL.out.size))
      clear hb
      cases hok : nameF s.data.toList with
      | true =>
        have HA : Hid (allN ss (k + 1) = true) := by unfold Hid; rw [HAS.out, HALL.out, hok]; rfl
        clear hok
        go_wp2_with fail
        go_roundg (ss.length - (k + 1))
        case measure => omega
        case rel => exact ⟨k + 1, by go_num, by omega, rfl, HA.out, HB.out⟩
      | false =>
        have HA : Hid (allN ss ss.length = false) := HAN.out hok
        clear hok
        go_wp2_with fail
        go_ret
        exact ⟨by rw [HA.out]; rfl, HB.out⟩
    · have he : k = ss.length := by omega
      subst he
      go_wp2_with fail
      go_ret
      exact ⟨by rw [HALL.out]; rfl, HBEL.out⟩

set_option maxRecDepth 100000 in
set_option maxHeartbeats 800000 in
theorem names_any (v : Value) (ss : List ByteArray) (hl : ss.length ≤ 1000000) (hpos : 0 < ss.length) (w : World) (h : StrsAt w v ss) :
    Calls Tryz.prog 56 #[v] w fun e w' => e = .returned (.bool (allN ss ss.length)) ∧ Below w.heap.size w w' := by
  obtain ⟨ao, cap, rfl⟩ := h.form
  have H := Lib.hid h
  clear h
  have hii : (0 : Int) < (ss.length : Int) := by omega
  go_enter Tryz.func56, Tryz.ntmps56
  go_wp2_with fail
  refine (every_strings _ ss hl w H.out).mono ?_
  rintro e w1 ⟨rfl, hb⟩
  have HB := Lib.hid hb
  clear hb
  go_wp2_with fail
  go_ret
  exact ⟨rfl, HB.out⟩
end Go.Proofs.YtngbjnjkcniabaaGreatDoor
