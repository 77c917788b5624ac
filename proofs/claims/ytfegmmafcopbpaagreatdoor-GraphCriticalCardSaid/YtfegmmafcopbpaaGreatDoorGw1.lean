/- The network of package graph in memory; the walk over first. -/
import Derived.Test.YtfegmmafcopbpaaGreatDoorGm1
import Derived.Test.YtfegmmafcopbpaaGreatDoorNw2
import Derived.Deep.QuietTactic
import Derived.BigQuiet
import Derived.StillTailTactics
namespace Go.Proofs.YtfegmmafcopbpaaGreatDoor
open Go.RowKit

def idxF (G : Gr) : ByteArray → Option Value := fun s => if s.data.toList ∈ idsG G then some (intV (posG G s.data.toList)) else none
/-- the network that check makes of a sound graph -/
def NetAt (w : World) (g : Nat) (nv : Value) (ns : List Nd) : Prop :=
  ∃ bm av bv, w.heap[g]? = some (.cells #[nv, .map (some bm), av, bv] 69 (0, 0)) ∧ NdAt w nv ns ∧ MapF .string Value.string w bm (idxF (grO ns)) ∧ MatAt w av ns.length (ab (grO ns)) ∧ MatAt w bv ns.length (be (grO ns))
theorem NetAt.below {w w1 : World} {g : Nat} {nv : Value} {ns : List Nd} (h : NetAt w g nv ns) (hb : Below w.heap.size w w1) : NetAt w1 g nv ns := by
  obtain ⟨bm, av, bv, h1, h2, h3, h4, h5⟩ := h
  exact ⟨bm, av, bv, by rw [hb.block _ (Array.getElem?_eq_some_iff.1 h1).1]; exact h1, h2.below hb, h3.below hb, h4.below hb, h5.below hb⟩
theorem NetAt.cell0 {w : World} {g : Nat} {nv : Value} {ns : List Nd} (h : NetAt w g nv ns) : w.cell? ⟨g, 0, none⟩ = some nv ∧ g < w.heap.size := by
  obtain ⟨bm, av, bv, h1, _⟩ := h
  exact ⟨by rw [cell_of_blk h1]; rfl, (Array.getElem?_eq_some_iff.1 h1).1⟩

theorem NdAt.lit {w : World} {b off n cap : Nat} {ns : List Nd} (h : NdAt w (.slice (some ⟨b, off, none⟩) n cap) ns) {k : Nat} (hk : k < ns.length) :
    b < w.heap.size ∧ w.cell? ⟨b, off + k * 2, none⟩ = some (.string (ns.getD k default).id) ∧ w.cell? ⟨b, off + k * 2 + 1, none⟩ = some (ns.getD k default).nv ∧ StrsAt w (ns.getD k default).nv (ns.getD k default).needs := by
  obtain ⟨b', off', e, h1⟩ := h.at2 hk
  injection e with e
  injection e with e1 e2
  subst e1 e2
  exact h1

def optI : Option Nat → Int
  | none => -1
  | some k => (k : Nat)

def FirRel (w1 : World) (n : Nat) (id : Nat → Bs) (l : List Nat) (f : Nat) (t5 t10 : Value) (wr : World) : Prop :=
  ∃ (k : Nat) (b : Option Nat), t5 = .int .i64 (optI b) ∧ t10 = .int .i64 (k : Nat) ∧ k ≤ l.length ∧ f = l.length - k ∧ bestF id b (l.drop k) = firstF id l ∧ (∀ j, b = some j → j < n) ∧ Up w1 wr

theorem bestF_step (id : Nat → Bs) {l : List Nat} {k : Nat} (hk : k < l.length) (b : Option Nat) : bestF id b (l.drop k) = match b with
    | none => bestF id (some (l.getD k 0)) (l.drop (k + 1))
    | some j => if natC (id (l.getD k 0)) (id j) < 0 then bestF id (some (l.getD k 0)) (l.drop (k + 1)) else bestF id (some j) (l.drop (k + 1)) := by
  have e : l.getD k 0 = l[k] := by rw [List.getD, List.getElem?_eq_getElem hk]; rfl
  rw [e, List.drop_eq_getElem_cons hk]
  cases b <;> rfl

set_option maxRecDepth 100000 in
set_option maxHeartbeats 1600000 in
theorem first_any (g : Nat) (nv v : Value) (ns : List Nd) (l : List Nat) (hl : ∀ i ∈ l, i < ns.length) (hsz : ∀ x ∈ ns, x.id.size ≤ 9223372036854775807) (hll : l.length ≤ 1000000) (w : World) (hN : NdAt w nv ns) (hg : w.cell? ⟨g, 0, none⟩ = some nv) (hgl : g < w.heap.size) (h : IntsAt w v l) :
    Calls Tryz.prog 43 #[.pointer (some ⟨g, 0, none⟩), v] w fun e w' => e = .returned (.int .i64 (optI (firstF (idA (grO ns)) l))) ∧ Up w w' := by
  obtain ⟨ao, cap, rfl⟩ := h.form
  obtain ⟨nao, ncap, rfl⟩ := hN.sl.form
  have H := Lib.hid h
  have HN := Lib.hid hN
  have HL := Lib.hid hl
  have HSZ := Lib.hid hsz
  clear h hN hl hsz
  go_enter Tryz.func43, Tryz.ntmps43
  go_wp2_with fail
  go_loopg [5, 10] l.length (FirRel w ns.length (idA (grO ns)) l)
  case atStart => exact ⟨0, none, rfl, rfl, Nat.zero_le _, rfl, rfl, fun j hj => (by cases hj), Up.refl _⟩
  case round =>
    obtain ⟨k, b, rfl, rfl, hk, rfl, hbest, hbl, hu⟩ := hrel
    have HB := Lib.hid hbest
    have HU := Lib.hid hu
    have hg1 : wr.cell? ⟨g, 0, none⟩ = some (.slice nao ns.length ncap) := (hu.b.cell (p := ⟨g, 0, none⟩) hgl).trans hg
    clear hbest hu
    by_cases hlt : k < l.length
    · have hii : (k : Int) < (l.length : Int) := by omega
      obtain ⟨ib, ioff, rfl, hib, hic⟩ := IntsAt.at1 (SlAt.below H.out HU.out.b) hlt
      have hi : l.getD k 0 < ns.length := HL.out _ (by rw [List.getD, List.getElem?_eq_getElem hlt]; exact List.getElem_mem hlt)
      have HST := Lib.hid (bestF_step (idA (grO ns)) hlt b)
      have HID := Lib.hid (grO_id ns hi)
      obtain ⟨nb, noff, rfl, hnb, hnc, _⟩ := (HN.out.below HU.out.b).at2 hi
      have HSX := Lib.hid (HSZ.out _ (show ns.getD (l.getD k 0) default ∈ ns by rw [List.getD, List.getElem?_eq_getElem hi]; exact List.getElem_mem hi))
      have hii2 : ((l.getD k 0 : Nat) : Int) < (ns.length : Int) := by omega
      generalize l.getD k 0 = i at *
      cases b with
      | none =>
        simp only [optI]
        go_upto_region 5 with fail
        go_quiet (fail)
        go_wp2_with fail
        go_roundg (l.length - (k + 1))
        case measure => omega
        case rel => exact ⟨k + 1, some i, rfl, by go_num, by omega, rfl, by rw [← HB.out, HST.out], fun j hj => (by injection hj with hj; omega), HU.out.drewN _⟩
      | some j =>
        have hj := hbl j rfl
        obtain ⟨_, hnc2, _⟩ := (HN.out.below HU.out.b).lit hj
        have HJD := Lib.hid (grO_id ns hj)
        have HSY := Lib.hid (HSZ.out _ (show ns.getD j default ∈ ns by rw [List.getD, List.getElem?_eq_getElem hj]; exact List.getElem_mem hj))
        have hjj : ((j : Nat) : Int) < (ns.length : Int) := by omega
        have hj0 : decide (((j : Nat) : Int) < 0) = false := by simp
        have CM := fun W => Lib.hid (compare_any (ns.getD i default).id (ns.getD j default).id HSX.out HSY.out W)
        generalize (ns.getD i default).id = x at *
        generalize (ns.getD j default).id = y at *
        simp only [optI]
        go_upto_region 5 with fail
        go_still_tail 19, (by kernel_rfl)
        change wpList _ _ _ _ _ (World.drew _)
        go_wp2_with fail
        refine (CM _).out.mono ?_
        rintro e w5 ⟨rfl, hu5⟩
        have HU5 := Lib.hid (HU.out.trans ((Up.refl wr).drew.trans hu5))
        clear hu5 CM
        have HST2 : Hid (bestF (idA (grO ns)) (some j) (l.drop k) = if natC x.data.toList y.data.toList < 0 then bestF (idA (grO ns)) (some i) (l.drop (k + 1)) else bestF (idA (grO ns)) (some j) (l.drop (k + 1))) := by
          unfold Hid; rw [HST.out]; simp only [HID.out, HJD.out]
        generalize natC x.data.toList y.data.toList = q at *
        by_cases hq : q < 0
        · have HF : Hid (bestF (idA (grO ns)) (some i) (l.drop (k + 1)) = firstF (idA (grO ns)) l) := by unfold Hid; rw [← HB.out, HST2.out, if_pos hq]
          as_aux_lemma =>
          go_wp2_with fail
          go_roundg (l.length - (k + 1))
          case measure => omega
          case rel => exact ⟨k + 1, some i, rfl, by go_num, by omega, rfl, HF.out, fun j hj => (by injection hj with hj; omega), HU5.out⟩
        · have HF : Hid (bestF (idA (grO ns)) (some j) (l.drop (k + 1)) = firstF (idA (grO ns)) l) := by unfold Hid; rw [← HB.out, HST2.out, if_neg hq]
          have hq1 : decide (q < 0) = false := by simp; omega
          clear hq
          as_aux_lemma =>
          go_wp2_with fail
          go_roundg (l.length - (k + 1))
          case measure => omega
          case rel => exact ⟨k + 1, some j, rfl, by go_num, by omega, rfl, HF.out, hbl, HU5.out⟩
    · have he : k = l.length := by omega
      subst he
      have HF : Hid (b = firstF (idA (grO ns)) l) := by
        have := HB.out
        rw [List.drop_length] at this
        rw [← this]
        cases b <;> rfl
      go_wp2_with fail
      go_ret
      exact ⟨by rw [HF.out]; rfl, HU.out⟩
end Go.Proofs.YtfegmmafcopbpaaGreatDoor
