/- The tests of value.node, plain. -/
import Derived.Test.YtomecnncighkgaaGreatDoorVw1
import Derived.Test.YtomecnncighkgaaGreatDoorVw2
import Derived.Test.YtomecnncighkgaaGreatDoorVw3
import Derived.Test.YtomecnncighkgaaGreatDoorVa1
namespace Go.Proofs.YtomecnncighkgaaGreatDoor
open Go.RowKit

/-- the error's number of one value at a level, by its fields -/
def nodeG (lv : Nat) (k : Int) (b : Bool) (n : Int) (s : ByteArray) (ln : Nat) (ks : List ByteArray) : Nat :=
  if 16 < lv then 13 else
  if k < 0 ∨ 5 < k ∨ plainG k b n s ln ks.length = false then 1 else
  if n < -9007199254740992 ∨ 9007199254740992 < n then 2 else
  if 4096 < s.size ∨ 1024 < ln ∨ 1024 < ks.length then 3 else
  if k = 5 ∧ (decide (ks.length = ln) && keysTo ks ks.length) = false then 1 else
  if (k = 4 ∨ k = 5) ∧ ln = 0 ∧ lv = 16 then 13 else 0
theorem nodeF_eq (lv : Nat) (t : VT) : nodeF lv t = nodeG lv t.kind t.bool t.int t.str t.list.length t.keys := rfl

/-- the tests that stand behind those of the kind -/
def nodeH (lv : Nat) (k n : Int) (s : ByteArray) (ln : Nat) (ks : List ByteArray) : Nat :=
  if n < -9007199254740992 ∨ 9007199254740992 < n then 2 else
  if 4096 < s.size ∨ 1024 < ln ∨ 1024 < ks.length then 3 else
  if k = 5 ∧ (decide (ks.length = ln) && keysTo ks ks.length) = false then 1 else
  if (k = 4 ∨ k = 5) ∧ ln = 0 ∧ lv = 16 then 13 else 0

end Go.Proofs.YtomecnncighkgaaGreatDoor
/- Check, plain. -/
namespace Go.Proofs.YtomecnncighkgaaGreatDoor
open Go.RowKit

/-- check by the fields -/
def chkG (lv : Nat) (k : Int) (b : Bool) (n : Int) (s : ByteArray) (LL : List VT) (ks : List ByteArray) : Nat :=
  if nodeG lv k b n s LL.length ks ≠ 0 then nodeG lv k b n s LL.length ks else checkL (lv + 1) LL
theorem checkF_eq (lv : Nat) (k : Int) (b : Bool) (n : Int) (s : ByteArray) (LL : List VT) (ks : List ByteArray) : checkF lv (.mk k b n s LL ks) = chkG lv k b n s LL ks := by
  rw [checkF_eqn, nodeF_eq]; rfl
theorem chk_ne {lv : Nat} {k : Int} {b : Bool} {n : Int} {s : ByteArray} {LL : List VT} {ks : List ByteArray} {v : Nat} (h : nodeG lv k b n s LL.length ks = v) (hv : v ≠ 0) : chkG lv k b n s LL ks = v := by
  unfold chkG; rw [h, if_pos hv]
theorem chk_zero {lv : Nat} {k : Int} {b : Bool} {n : Int} {s : ByteArray} {LL : List VT} {ks : List ByteArray} (h : nodeG lv k b n s LL.length ks = 0) : chkG lv k b n s LL ks = checkL (lv + 1) LL := by
  unfold chkG; rw [h, if_neg (by simp)]
theorem chkL_step {lv : Nat} {LL : List VT} {i : Nat} (hi : i < LL.length) (h0 : checkL lv (LL.take i) = 0) (hq : checkF lv LL[i] = 0) : checkL lv (LL.take (i + 1)) = 0 := by
  rw [List.take_add_one, List.getElem?_eq_getElem hi, checkL_app, h0]
  simp [checkL, hq]
theorem chkL_stop {lv : Nat} {LL : List VT} {i : Nat} (hi : i < LL.length) (h0 : checkL lv (LL.take i) = 0) (hq : ¬ checkF lv LL[i] = 0) : checkL lv LL = checkF lv LL[i] := by
  have := checkL_app lv (LL.take i) (LL.drop i)
  rw [List.take_append_drop, h0, List.drop_eq_getElem_cons hi] at this
  rw [this]
  simp [checkL, hq]
theorem vcell_six {w : World} {t : VT} {cs : List Value} (h : VCell w t cs) : ∃ k b n s v4 v5, cs = [.int .i64 k, .bool b, .int .i64 n, .string s, v4, v5] := by
  cases t
  rw [vcell_mk] at h
  obtain ⟨lv, kv, rfl, _, _⟩ := h
  exact ⟨_, _, _, _, _, _, rfl⟩
/-- in the round over the elements -/
def ChkRel (w1 : World) (lv : Nat) (LL : List VT) (v : Value) (f : Nat) (t : Value) (wr : World) : Prop :=
  ∃ i : Nat, t = .int .i64 (i : Nat) ∧ i ≤ LL.length ∧ f = LL.length - i ∧ checkL (lv + 1) (LL.take i) = 0 ∧ Below w1.heap.size w1 wr ∧ wr.cell? ⟨w1.heap.size, 4, none⟩ = some v ∧ w1.heap.size < wr.heap.size
/-- check of a value that lies in memory answers -/
def ChkCalls (t : VT) : Prop := ∀ lv : Nat, lv ≤ 17 → ∀ cs W, VCell W t cs → Calls Tryz.prog 101 #[.agg cs.toArray, .int .i64 (lv : Nat)] W fun e w' => e = .returned (.int .i64 (checkF lv t : Nat)) ∧ Below W.heap.size W w'

end Go.Proofs.YtomecnncighkgaaGreatDoor
