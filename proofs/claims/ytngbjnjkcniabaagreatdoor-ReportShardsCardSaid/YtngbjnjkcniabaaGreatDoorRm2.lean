/- The walks over slices.Grow and slices.Concat at lists of results, and over report.Merge's comparison; sorting a row of results. -/
import Derived.Test.YtngbjnjkcniabaaGreatDoorRm1
import Derived.Test.YtngbjnjkcniabaaGreatDoorNw2
import Derived.Test.YtngbjnjkcniabaaGreatDoorShelfm
import Derived.Test.YtngbjnjkcniabaaGreatDoorRopen
import Derived.Lib.AppendZerosOnto
import Derived.Shelf.SlSortCmp.NoneTotal
namespace Go.Proofs.YtngbjnjkcniabaaGreatDoor
open Go.RowKit Go.Deep

set_option maxRecDepth 100000 in
set_option maxHeartbeats 1600000 in
theorem grow_any (n : Nat) (hn : n ≤ 100000) (w : World) : Calls Tryz.prog 63 #[.slice none 0 0, .int .i64 (n : Nat)] w fun e w' => ∃ v, e = .returned v ∧ TrRow w' w.heap.size v [] ∧ Below w.heap.size w w' := by
  obtain ⟨i41, hi41, hz41, hn41, hy41⟩ := Tryz.info45'
  by_cases h0 : n = 0
  · subst h0
    clear hi41 hz41 hn41 hy41
    go_enter Tryz.func63, Tryz.ntmps63
    go_wp2_with fail
    go_ret
    exact ⟨_, rfl, World.ownsRow_nil _ _ _ _, Below.refl _ _⟩
  · have hold : (Builtin.firstCells i41.size 0 (.slice none 0 0)).run Tryz.prog w.drew = .ok ([] : List Value).toArray w.drew := run_firstCells_none w.drew i41.size 0 0 0
    have hrz := Lib.run_append_grow_zeros (P := Tryz.prog) w 23 3 23 41 i41 _ .i64 .i64 Tryz.underlying23 Tryz.underlying3 hi41 hz41 none 0 0 [] hold n (by omega) (by omega) (by omega) (by omega) (by rw [hy41]; omega) (growslice_fits (by omega) (by rw [hy41]; omega))
    rw [Nat.zero_add] at hrz
    have hG1 : n ≤ grownCap w n 0 41 := grownCap_ge w _ _ _
    have hG2 := grownCap_le_maxLen w n 0 41 (by unfold maxLen; omega)
    have HOWN : Hid (∀ cur : Array Value, cur.size = grownCap w n 0 41 * 3 → TrRow (w.drew.alloc (.cells cur 41)) w.heap.size (.slice (some ⟨w.heap.size, 0, none⟩) 0 (grownCap w n 0 41)) []) := fun cur hc =>
      World.ownsRow_made w.drew cur _ (Nat.le_refl _) hG2 hc
    have hcs : (([] : List Value).toArray ++ Builtin.zeroCells (Value.agg #[.string ByteArray.empty, .int .i64 0, .int .i64 0]).cells n ++ Builtin.zeroCells (Value.agg #[.string ByteArray.empty, .int .i64 0, .int .i64 0]).cells (grownCap w n 0 41 - n)).size = grownCap w n 0 41 * 3 := by
      have e : (Value.agg #[.string ByteArray.empty, .int .i64 0, .int .i64 0]).cells.size = 3 := rfl
      rw [Array.size_append, Array.size_append, size_zeroCells, size_zeroCells, e]
      simp
      omega
    have HR := Lib.hid (HOWN.out _ hcs)
    have HB : Hid (∀ cur : Array Value, Below w.heap.size w (w.drew.alloc (.cells cur 41))) := fun cur => (Below.refl _ w).drew.alloc (Nat.le_refl _) _
    clear hcs HOWN hold hz41 hn41 hy41 hi41
    generalize ([] : List Value).toArray ++ Builtin.zeroCells _ n ++ Builtin.zeroCells _ _ = cur at *
    generalize grownCap w n 0 41 = G at *
    have hni : (0 : Int) < (n : Int) := by omega
    clear h0
    go_enter Tryz.func63, Tryz.ntmps63
    go_wp2_with (at_builtin; refine Lib.wpList_append_run _ rfl _ _ _ _ rfl _ _ rfl rfl _ _ hrz ?_)
    all_goals (go_ret; exact ⟨_, rfl, HR.out, HB.out _⟩)

def catTo (a b : List Qu) : Nat → List Qu
  | 0 => []
  | 1 => a
  | _ => a ++ b
def Cat1Rel (w1 : World) (a b : List Qu) (f : Nat) (t3 t11 : Value) (wr : World) : Prop :=
  ∃ k : Nat, t11 = .int .i64 (k : Nat) ∧ k ≤ 2 ∧ t3 = .int .i64 (((catTo a b k).length : Nat) : Int) ∧ f = 2 - k ∧ wr = w1
def Cat2Rel (w0 : World) (a b : List Qu) (f : Nat) (t6 t27 : Value) (wr : World) : Prop :=
  ∃ k : Nat, t27 = .int .i64 (k : Nat) ∧ k ≤ 2 ∧ TrRow wr w0.heap.size t6 (catTo a b k) ∧ f = 2 - k ∧ Below w0.heap.size w0 wr

set_option maxRecDepth 100000 in
set_option maxHeartbeats 3200000 in
theorem concat_any (g c : Nat) (va vb : Value) (a b : List Qu) (ha : a.length ≤ 10000) (hb : b.length ≤ 10000) (w : World) (hg : g < w.heap.size) (c0 : w.cell? ⟨g, 0, none⟩ = some va) (c1 : w.cell? ⟨g, 1, none⟩ = some vb) (hA : QuAt w va a) (hB : QuAt w vb b) :
    Calls Tryz.prog 41 #[.slice (some ⟨g, 0, none⟩) 2 c] w fun e w' => ∃ v, e = .returned v ∧ TrRow w' w.heap.size v (a ++ b) ∧ Below w.heap.size w w' := by
  obtain ⟨ao, acap, rfl⟩ := SlAt.form hA
  obtain ⟨bo, bcap, rfl⟩ := SlAt.form hB
  have HA := Lib.hid hA
  have HB := Lib.hid hB
  have HC : Hid (∀ W, Below w.heap.size w W → W.cell? ⟨g, 0, none⟩ = some (.slice ao a.length acap) ∧ W.cell? ⟨g, 1, none⟩ = some (.slice bo b.length bcap)) := fun W hW => ⟨(hW.cell (p := ⟨g, 0, none⟩) hg).trans c0, (hW.cell (p := ⟨g, 1, none⟩) hg).trans c1⟩
  have HLN : Hid ((a ++ b).length = a.length + b.length) := List.length_append ..
  obtain ⟨i41, hi41, hz41, hn41, hy41⟩ := Tryz.info45'
  have HI := Lib.hid hi41
  clear hA hB hi41
  go_enter Tryz.func41, Tryz.ntmps41
  go_wp2_with fail
  go_loopg [3, 11] 2 (Cat1Rel w a b)
  case atStart => exact ⟨0, rfl, by decide, rfl, rfl, rfl⟩
  case round =>
    obtain ⟨k, rfl, hk, rfl, rfl, hw⟩ := hrel
    subst wr
    have p0 : decide ((a.length : Int) < 0) = false := decide_eq_false (by omega)
    have p1 : decide ((a.length : Int) + (b.length : Int) < 0) = false := decide_eq_false (by omega)
    rcases (show k = 0 ∨ k = 1 ∨ k = 2 by omega) with rfl | rfl | rfl
    · rw [show (catTo a b 0).length = 0 from rfl]
      as_aux_lemma =>
      go_wp2_with fail
      go_roundg 1
      case measure => omega
      case rel => exact ⟨1, by go_num, by decide, by unfold catTo; go_num, rfl, rfl⟩
    · rw [show (catTo a b 1).length = a.length from rfl]
      as_aux_lemma =>
      go_wp2_with fail
      go_roundg 0
      case measure => omega
      case rel => exact ⟨2, by go_num, by decide, by show _ = Value.int _ (((a ++ b).length : Nat) : Int); rw [HLN.out]; go_num, rfl, rfl⟩
    · have hsz : (a ++ b).length ≤ 100000 := by rw [HLN.out]; omega
      have GR := Lib.hid (grow_any (a ++ b).length hsz w)
      unfold catTo
      have HNN : Hid ((a ++ b).length = a.length + b.length) := HLN.out
      generalize hnn : (a ++ b).length = n at *
      clear c0 c1 hnn HLN
      go_wp2_with fail
      refine GR.out.mono ?_
      rintro e w3 ⟨v3, rfl, hr, hb3⟩
      have HR3 := Lib.hid hr
      have HB3 := Lib.hid hb3
      obtain ⟨o3, c3, rfl⟩ := ownsRow_form hr
      clear hr hb3 GR
      go_wp2_with fail
      go_loopg [6, 27] 2 (Cat2Rel w a b)
      case atStart => exact ⟨0, rfl, by decide, HR3.out, rfl, HB3.out⟩
      case round =>
        obtain ⟨k, rfl, hk, hr, rfl, hbel⟩ := hrel
        have HBE := Lib.hid hbel
        have hbs := hbel.size
        obtain ⟨d0, d1⟩ := HC.out wr hbel
        have HAR := Lib.hid (SlAt.below HA.out hbel)
        have HBR := Lib.hid (SlAt.below HB.out hbel)
        have HR := Lib.hid hr
        obtain ⟨o6, c6, rfl⟩ := ownsRow_form hr
        clear hr hbel
        rcases (show k = 0 ∨ k = 1 ∨ k = 2 by omega) with rfl | rfl | rfl
        · have HR0 : Hid (wr.ownsRow w.heap.size 41 3 (.slice o6 0 c6) 0 (([] : List Qu).flatMap Qu.cells)) := HR.out
          change Code.wp _ _ _ _ _
          unfold catTo
          as_aux_lemma =>
          go_wp2_with (at_builtin; refine wpList_append_qu rfl _ _ 23 rfl w.heap.size 41 i41 (.agg #[.string ByteArray.empty, .int .i64 0, .int .i64 0]) Tryz.underlying23 ⟨HI.out, hz41, hn41, hy41⟩ rfl _ 0 [] rfl HR0.out rfl _ a rfl HAR.out (by simp; omega) hbs ?_)
          intro v' w4 hown hgrow hwh
          obtain ⟨ao', cap', rfl⟩ := ownsRow_form hown
          have HB4 := Lib.hid (HBE.out.grown hgrow hbs (fun j hj => (HR0.out.lt j hj).1))
          have HO := Lib.hid hown
          clear hown hgrow hwh
          go_wp2_with fail
          go_roundg 1
          case measure => omega
          case rel => exact ⟨1, by go_num, by decide, by show w4.ownsRow _ _ _ _ a.length (a.flatMap Qu.cells); exact HO.out, rfl, HB4.out⟩
        · have HR0 : Hid (wr.ownsRow w.heap.size 41 3 (.slice o6 a.length c6) a.length (a.flatMap Qu.cells)) := HR.out
          unfold catTo
          as_aux_lemma =>
          go_wp2_with (at_builtin; refine wpList_append_qu rfl _ _ 23 rfl w.heap.size 41 i41 (.agg #[.string ByteArray.empty, .int .i64 0, .int .i64 0]) Tryz.underlying23 ⟨HI.out, hz41, hn41, hy41⟩ rfl _ a.length a rfl HR0.out rfl _ b rfl HBR.out (by omega) hbs ?_)
          intro v' w4 hown hgrow hwh
          obtain ⟨ao', cap', rfl⟩ := ownsRow_form hown
          have HB4 := Lib.hid (HBE.out.grown hgrow hbs (fun j hj => (HR0.out.lt j hj).1))
          have HO := Lib.hid hown
          clear hown hgrow hwh
          go_wp2_with fail
          go_roundg 0
          case measure => omega
          case rel => exact ⟨2, by go_num, by decide, by show w4.ownsRow _ _ _ _ (a ++ b).length ((a ++ b).flatMap Qu.cells); rw [List.length_append]; first | exact HO.out | (rw [List.flatMap_append]; exact HO.out), rfl, HB4.out⟩
        · have HR0 : Hid (TrRow wr w.heap.size (.slice o6 (catTo a b 2).length c6) (a ++ b)) := HR.out
          generalize (catTo a b 2).length = m at *
          as_aux_lemma =>
          go_wp2_with fail
          go_ret
          exact ⟨_, rfl, HR0.out, HBE.out⟩

/-! ### the comparison and the sort -/
instance : Inhabited QuB := ⟨⟨⟨ByteArray.empty, 0, 0⟩, by decide⟩⟩
def encQ (x : QuB) : List Value := x.1.cells
def cfQ (x y : QuB) : Int := natC (nmQ x.1) (nmQ y.1)
open Go.Sort in
theorem quB_swo : SWO (ltOf cfQ) where
  irrefl x := nat_swo.irrefl (nmQ x.1)
  trans x y z := nat_swo.trans (nmQ x.1) (nmQ y.1) (nmQ z.1)
  ntrans x y z := nat_swo.ntrans (nmQ x.1) (nmQ y.1) (nmQ z.1)

set_option maxRecDepth 100000 in
set_option maxHeartbeats 1600000 in
theorem cmp1_any (x y : Qu) (hx : x.name.size ≤ 9223372036854775807) (hy : y.name.size ≤ 9223372036854775807) (w : World) : Calls Tryz.prog 43 #[x.val, y.val] w fun e w' => e = .returned (.int .i64 (natC (nmQ x) (nmQ y))) ∧ Up w w' := by
  obtain ⟨xn, xs, xt⟩ := x
  obtain ⟨yn, ys, yt⟩ := y
  dsimp only at hx hy
  obtain ⟨W1, hW1⟩ : ∃ W, w.alloc (.cells #[.string xn, .int .i64 xs, .int .i64 xt] 41 (0, 0)) = W := ⟨_, rfl⟩
  obtain ⟨W2, hW2⟩ : ∃ W, W1.alloc (.cells #[.string yn, .int .i64 ys, .int .i64 yt] 41 (0, 0)) = W := ⟨_, rfl⟩
  have hs1 : W1.heap.size = w.heap.size + 1 := by rw [← hW1]; simp
  have hk1 : W2.heap[w.heap.size]? = some (.cells #[.string xn, .int .i64 xs, .int .i64 xt] 41 (0, 0)) := by rw [← hW2]; exact (hp_old (by omega)).trans (by rw [← hW1]; exact hp_new rfl)
  have hk2 : W2.heap[w.heap.size + 1]? = some (.cells #[.string yn, .int .i64 ys, .int .i64 yt] 41 (0, 0)) := by rw [← hW2]; exact hp_new (by omega)
  have HU : Hid (Up w W2) := by unfold Hid; rw [← hW2, ← hW1]; exact ((Up.refl w).alloc _).alloc _
  have c0 : W2.cell? ⟨w.heap.size, 0, none⟩ = some (.string xn) := cell_of_blk hk1 0
  have d0 : W2.cell? ⟨w.heap.size + 1, 0, none⟩ = some (.string yn) := cell_of_blk hk2 0
  have CM := Lib.hid (compare_any xn yn hx hy W2)
  clear hk1 hk2
  go_enter Tryz.func43, Tryz.ntmps43
  go_wp2_with fail
  refine CM.out.mono ?_
  rintro e w3 ⟨rfl, hu⟩
  have HU3 := Lib.hid (HU.out.trans hu)
  clear hu CM
  go_wp2_with fail
  go_ret
  exact ⟨rfl, HU3.out⟩
open Go.Sort Go.Lib Go.Shelf in
theorem quB_lays (blk off size : Nat) (w : World) : CmpLays Tryz.prog 43 #[] encQ 3 cfQ blk off size w := fun m os dk _ x y =>
  (cmp1_any x.1 y.1 x.2 y.2 _).mono (by
    rintro e w' ⟨he, hu⟩
    exact ⟨he, hu.grown⟩)
theorem cmp1Enters : ∀ args w, (callFunc 43 args).run Tryz.prog w = .ok (.enter 43 args) w := enters_of Tryz.func43 (by kernel_rfl) rfl
end Go.Proofs.YtngbjnjkcniabaaGreatDoor
