/- The walks over the laws' helpers: small, node; lists laid out in memory. -/
import Derived.Test.YtfegmmafcopbpaaGreatDoorRg4
import Derived.Test.YtfegmmafcopbpaaGreatDoorGw9
import Derived.Test.YtfegmmafcopbpaaGreatDoorGw16
import Derived.Laws.Rows
namespace Go.Proofs.YtfegmmafcopbpaaGreatDoor
open Go.RowKit

theorem strs_newG (w : World) (ss : List ByteArray) : StrsAt (w.alloc (.cells (ss.map Value.string).toArray 9)) (.slice (some ⟨w.heap.size, 0, none⟩) ss.length ss.length) ss := by
  refine .inr ⟨w.heap.size, 0, ss.length, rfl, by simp, Nat.le_refl _, fun i hi => ?_⟩
  rw [cell_of_blk (hp_new rfl)]
  simp [List.getD, hi]
theorem flat_at (ns : List Nd) {k : Nat} (hk : k < ns.length) (j : Nat) (hj : j < 2) : (ns.flatMap Nd.cells)[k * 2 + j]? = (ns[k].cells)[j]? := by
  induction ns generalizing k with
  | nil => cases hk
  | cons x ns ih =>
    rw [List.flatMap_cons]
    cases k with
    | zero =>
      rw [Nat.zero_mul, Nat.zero_add, List.getElem?_append_left (by rw [nd_len]; exact hj)]
      rfl
    | succ k =>
      rw [List.getElem?_append_right (by rw [nd_len]; omega), nd_len, show (k + 1) * 2 + j - 2 = k * 2 + j by omega]
      exact ih (by simpa using hk)
theorem nds_new (w : World) (ns : List Nd) (hst : ∀ x ∈ ns, StrsAt w x.nv x.needs) : NdAt (w.alloc (.cells (ns.flatMap Nd.cells).toArray 48)) (.slice (some ⟨w.heap.size, 0, none⟩) ns.length ns.length) ns := by
  refine ⟨.inr ⟨w.heap.size, 0, ns.length, rfl, by simp, fun k hk j u hj => ?_⟩, fun x hx => (hst x hx).below ((Below.refl _ w).alloc (Nat.le_refl _) _)⟩
  rw [cell_of_blk (hp_new rfl)]
  have hj2 : j < 2 := by have := (List.getElem?_eq_some_iff.1 hj).1; rwa [nd_len] at this
  rw [Nat.zero_add, List.getElem?_toArray, flat_at ns hk j hj2, hj]
theorem zs_new (w : World) (zs : List Int) : ZsAt (w.alloc (.cells (zs.map (Value.int .i64)).toArray 3)) (.slice (some ⟨w.heap.size, 0, none⟩) zs.length zs.length) zs := by
  refine .inr ⟨w.heap.size, 0, zs.length, rfl, by simp, fun k hk j u hj => ?_⟩
  rw [cell_of_blk (hp_new rfl)]
  have hj0 : j = 0 := by have := (List.getElem?_eq_some_iff.1 hj).1; simp at this; exact this
  subst hj0
  simp at hj
  rw [Nat.zero_add, Nat.mul_one, Nat.add_zero, List.getElem?_toArray, List.getElem?_map, List.getElem?_eq_getElem hk]
  simp [hj]

def sumN (ns : List Nd) : Nat := (ns.map fun x => x.needs.length).sum
def smallTo (most : Int) : Int → List Nd → Bool
  | n, [] => decide (n ≤ most)
  | n, x :: r => if n ≤ most then smallTo most (wrap64 (n + ((x.needs.length : Nat) : Int))) r else false
def smallF (ns : List Nd) (most : Nat) : Bool := smallTo (most : Nat) ((ns.length : Nat) : Int) ns
theorem smallTo_le {most n : Int} : ∀ {l : List Nd}, smallTo most n l = true → n ≤ most
  | [], h => by rw [smallTo, decide_eq_true_eq] at h; exact h
  | x :: r, h => by
    rw [smallTo] at h
    by_cases h1 : n ≤ most
    · exact h1
    · rw [if_neg h1] at h; cases h
theorem small_len {ns : List Nd} {most : Nat} (h : smallF ns most = true) : ns.length ≤ most := by
  have := smallTo_le h
  omega
theorem smallTo_step {most n : Int} {x : Nd} {r : List Nd} (h : n ≤ most) : smallTo most n (x :: r) = smallTo most (wrap64 (n + ((x.needs.length : Nat) : Int))) r := by rw [smallTo, if_pos h]
theorem smallTo_over {most n : Int} (h : ¬ n ≤ most) : ∀ l : List Nd, smallTo most n l = false
  | [] => by rw [smallTo, decide_eq_false h]
  | x :: r => by rw [smallTo, if_neg h]
theorem nd_drop (ns : List Nd) {k : Nat} (hk : k < ns.length) : ns.drop k = ns.getD k default :: ns.drop (k + 1) := by
  rw [List.drop_eq_getElem_cons hk, List.getD, List.getElem?_eq_getElem hk]; rfl
def SmallRel (w1 : World) (ns : List Nd) (most f : Nat) (t5 t6 : Value) (wr : World) : Prop :=
  ∃ (k : Nat) (n : Int), t6 = .int .i64 (k : Nat) ∧ k ≤ ns.length ∧ f = ns.length - k ∧ t5 = .int .i64 n ∧ smallTo (most : Nat) n (ns.drop k) = smallF ns most ∧ (k = 0 → n = (ns.length : Nat)) ∧ (0 < k → ns.length ≤ most) ∧ wr = w1

set_option maxRecDepth 100000 in
set_option maxHeartbeats 1600000 in
theorem small_any (nv : Value) (ns : List Nd) (most : Nat) (hmost : most ≤ 100000) (w : World) (h : NdAt w nv ns) : Calls Tryz.prog 11 #[nv, .int .i64 (most : Nat)] w fun e w' => e = .returned (.bool (smallF ns most)) ∧ w' = w := by
  obtain ⟨ao, cap, rfl⟩ := h.sl.form
  have H := Lib.hid h
  clear h
  go_enter Tryz.func11, Tryz.ntmps11
  go_wp2_with fail
  go_loopg [5, 6] ns.length (SmallRel w ns most)
  case atStart => exact ⟨0, _, rfl, Nat.zero_le _, rfl, rfl, rfl, fun _ => rfl, fun h => absurd h (by omega), rfl⟩
  case round =>
    obtain ⟨k, n, rfl, hk, rfl, rfl, hto, hz, hp, rfl⟩ := hrel
    have HTO := Lib.hid hto
    have HZ := Lib.hid hz
    have HP := Lib.hid hp
    clear hto hz hp
    by_cases hm : n ≤ ((most : Nat) : Int)
    · have hlm : ns.length ≤ most := by
        by_cases h0 : k = 0
        · have := HZ.out h0; omega
        · exact HP.out (by omega)
      by_cases hlt : k < ns.length
      · have hii : (k : Int) < (ns.length : Int) := by omega
        obtain ⟨b, off, rfl, hbl, _, hc, hsx⟩ := H.out.at2 hlt
        have HF : Hid (smallTo (most : Nat) (wrap64 (n + (((ns.getD k default).needs.length : Nat) : Int))) (ns.drop (k + 1)) = smallF ns most) := by
          unfold Hid
          rw [← HTO.out, nd_drop ns hlt, smallTo_step hm]
        obtain ⟨xao, xcap, hxe⟩ := hsx.form
        rw [hxe] at hc
        clear hxe hsx
        generalize (ns.getD k default).needs.length = nl at *
        as_aux_lemma =>
        go_wp2_with fail
        go_roundg (ns.length - (k + 1))
        case measure => omega
        case rel => exact ⟨k + 1, _, by go_num, by omega, rfl, rfl, HF.out, fun h => absurd h (by omega), fun _ => hlm, rfl⟩
      · have he : k = ns.length := by omega
        subst he
        have HF : Hid (smallF ns most = true) := by
          unfold Hid
          rw [← HTO.out, List.drop_length, smallTo, decide_eq_true hm]
        as_aux_lemma =>
        go_wp2_with fail
        go_ret
        exact ⟨by rw [HF.out]; try rfl, rfl⟩
    · have HF : Hid (smallF ns most = false) := by unfold Hid; rw [← HTO.out, smallTo_over hm]
      have hmd : decide (n ≤ ((most : Nat) : Int)) = false := decide_eq_false hm
      as_aux_lemma =>
      by_cases hlt : k < ns.length
      · have hii : (k : Int) < (ns.length : Int) := by omega
        go_wp2_with fail
        go_ret
        exact ⟨by rw [HF.out]; try rfl, rfl⟩
      · have hii : ¬ (k : Int) < (ns.length : Int) := by omega
        go_wp2_with fail
        go_ret
        exact ⟨by rw [HF.out]; try rfl, rfl⟩

set_option maxRecDepth 100000 in
set_option maxHeartbeats 1600000 in
theorem node_any (s : ByteArray) (ao : Option Addr) (n cap : Nat) (w : World) : Calls Tryz.prog 33 #[.string s, .slice ao n cap] w fun e w' => e = .returned (.agg #[.string s, .slice ao n cap]) ∧ Below w.heap.size w w' := by
  go_enter Tryz.func33, Tryz.ntmps33
  go_wp2_with fail
  refine bodyPost_ret (v := .agg #[.string s, .slice ao n cap]) ?_ rfl ⟨rfl, (Below.refl _ _).alloc (Nat.le_refl _) _⟩
  exact results_cell_row (p := 4) (ty := 48) rfl _ _ w.heap.size 48 #[.string s, .slice ao n cap] (0, 0) _ rfl (hp_new rfl) Tryz.underlying48 rfl (by kernel_rfl)

/-- a list of strings against a list that was just laid out -/
theorem same_new (r : Value) (ss cs : List ByteArray) (hc : cs.length ≤ 1000000) (h : dts ss = dts cs) (W : World) (hs : StrsAt W r ss) : Calls Tryz.prog 18 #[r, .slice (some ⟨W.heap.size, 0, none⟩) cs.length cs.length] (W.alloc (.cells (cs.map Value.string).toArray 9)) fun e w' => e = .returned (.bool true) ∧ Below W.heap.size W w' := by
  have hl : ss.length = cs.length := by have := congrArg List.length h; simpa [dts] using this
  have hb : Below W.heap.size W (W.alloc (.cells (cs.map Value.string).toArray 9)) := (Below.refl _ W).alloc (Nat.le_refl _) _
  refine (rsame_any r _ ss cs (by omega) _ (hs.below hb) (strs_newG W cs)).mono ?_
  rintro e w' ⟨rfl, hb'⟩
  exact ⟨by rw [decide_eq_true h], hb.trans (hb'.mono hb.size)⟩
end Go.Proofs.YtfegmmafcopbpaaGreatDoor
