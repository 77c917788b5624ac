/- The walks over the reference's comparisons of two lists that hold the same. -/
import Derived.Test.YtghahghbahcpfaaGreatDoorVs3
import Derived.Test.YtghahghbahcpfaaGreatDoorVo3
import Derived.Test.YtghahghbahcpfaaGreatDoorVs10
import Derived.Test.YtghahghbahcpfaaGreatDoorVo4
import Derived.Test.YtghahghbahcpfaaGreatDoorVa2
import Derived.Test.YtghahghbahcpfaaGreatDoorSi1
namespace Go.Proofs.YtghahghbahcpfaaGreatDoor
open Go.RowKit

def SaRel1 (w1 : World) (n : Nat) (f : Nat) (t5 : Value) (wr : World) : Prop :=
  ∃ k : Nat, t5 = .int .i64 (k : Nat) ∧ k ≤ n ∧ f = n - k ∧ Below w1.heap.size w1 wr
set_option maxRecDepth 100000 in
set_option maxHeartbeats 3200000 in
theorem outs_same (L : List OutM) (u v : Value) (B C : Nat → Prop) (hl : L.length ≤ 9223372036854775807) (w : World) (h : EOut.Row B w L u) (h2 : EOut.Row C w L v) :
    Calls Tryz.prog 25 #[u, v] w fun e w' => e = .returned (.bool true) ∧ Below w.heap.size w w' := by
  obtain ⟨ao, cap, rfl⟩ := h.form
  obtain ⟨bo, bcap, rfl⟩ := h2.form
  have H := Lib.hid h
  have H2 := Lib.hid h2
  clear h h2
  go_enter Tryz.func25, Tryz.ntmps25
  go_wp2_with fail
  go_loopg [5] L.length (SaRel1 w L.length)
  case atStart => exact ⟨0, rfl, Nat.zero_le _, rfl, Below.refl _ _⟩
  case round =>
    obtain ⟨k, rfl, hk, rfl, hbel⟩ := hrel
    have HB := Lib.hid hbel
    clear hbel
    by_cases hlt : k < L.length
    · obtain ⟨b, off, cs, rfl, _, _, hc, hR⟩ := (H.out.below HB.out).at hlt
      obtain ⟨b', off', ds, rfl, _, _, hd, hS⟩ := (H2.out.below HB.out).at hlt
      have hcs : cs = [.string L[k].name, .int .u64 (L[k].dig : Nat), .int .i64 L[k].size] := hR
      have hds : ds = [.string L[k].name, .int .u64 (L[k].dig : Nat), .int .i64 L[k].size] := hS
      subst hcs hds
      have c0 : wr.cell? ⟨b, off + k * 3, none⟩ = some (.string L[k].name) := hc 0 _ rfl
      have c1 : wr.cell? ⟨b, off + k * 3 + 1, none⟩ = some (.int .u64 (L[k].dig : Nat)) := hc 1 _ rfl
      have c2 : wr.cell? ⟨b, off + k * 3 + 2, none⟩ = some (.int .i64 L[k].size) := hc 2 _ rfl
      have d0 : wr.cell? ⟨b', off' + k * 3, none⟩ = some (.string L[k].name) := hd 0 _ rfl
      have d1 : wr.cell? ⟨b', off' + k * 3 + 1, none⟩ = some (.int .u64 (L[k].dig : Nat)) := hd 1 _ rfl
      have d2 : wr.cell? ⟨b', off' + k * 3 + 2, none⟩ = some (.int .i64 L[k].size) := hd 2 _ rfl
      clear hc hd hR hS
      have hii : (k : Int) < (L.length : Int) := by omega
      generalize L[k] = q at *
      go_wp2_with fail
      go_region
      go_wp2
      go_roundg (L.length - (k + 1))
      case measure => omega
      case rel => exact ⟨k + 1, by go_num, by omega, rfl, HB.out.drew⟩
    · have hii : ¬ (k : Int) < (L.length : Int) := by omega
      go_wp2_with fail
      go_ret
      exact ⟨rfl, HB.out⟩
set_option maxRecDepth 100000 in
set_option maxHeartbeats 3200000 in
theorem ents_same (L : List EntM) (u v : Value) (B C : Nat → Prop) (hl : L.length ≤ 9223372036854775807) (w : World) (h : EEnt.Row B w L u) (h2 : EEnt.Row C w L v) :
    Calls Tryz.prog 32 #[u, v] w fun e w' => e = .returned (.bool true) ∧ Below w.heap.size w w' := by
  obtain ⟨ao, cap, rfl⟩ := h.form
  obtain ⟨bo, bcap, rfl⟩ := h2.form
  have H := Lib.hid h
  have H2 := Lib.hid h2
  clear h h2
  go_enter Tryz.func32, Tryz.ntmps32
  go_wp2_with fail
  go_loopg [5] L.length (SaRel1 w L.length)
  case atStart => exact ⟨0, rfl, Nat.zero_le _, rfl, Below.refl _ _⟩
  case round =>
    obtain ⟨k, rfl, hk, rfl, hbel⟩ := hrel
    have HB := Lib.hid hbel
    clear hbel
    by_cases hlt : k < L.length
    · obtain ⟨b, off, cs, rfl, _, _, hc, hR⟩ := (H.out.below HB.out).at hlt
      obtain ⟨b', off', ds, rfl, _, _, hd, hS⟩ := (H2.out.below HB.out).at hlt
      have hcs : cs = [.string L[k].proj, .int .i64 L[k].trust, .string L[k].ref, .string L[k].key, .int .u64 (L[k].dig : Nat), .int .i64 L[k].size, .int .i64 L[k].created, .int .i64 L[k].used] := hR
      have hds : ds = [.string L[k].proj, .int .i64 L[k].trust, .string L[k].ref, .string L[k].key, .int .u64 (L[k].dig : Nat), .int .i64 L[k].size, .int .i64 L[k].created, .int .i64 L[k].used] := hS
      subst hcs hds
      have c0 : wr.cell? ⟨b, off + k * 8, none⟩ = some (.string L[k].proj) := hc 0 _ rfl
      have c1 : wr.cell? ⟨b, off + k * 8 + 1, none⟩ = some (.int .i64 L[k].trust) := hc 1 _ rfl
      have c2 : wr.cell? ⟨b, off + k * 8 + 2, none⟩ = some (.string L[k].ref) := hc 2 _ rfl
      have c3 : wr.cell? ⟨b, off + k * 8 + 3, none⟩ = some (.string L[k].key) := hc 3 _ rfl
      have c4 : wr.cell? ⟨b, off + k * 8 + 4, none⟩ = some (.int .u64 (L[k].dig : Nat)) := hc 4 _ rfl
      have c5 : wr.cell? ⟨b, off + k * 8 + 5, none⟩ = some (.int .i64 L[k].size) := hc 5 _ rfl
      have c6 : wr.cell? ⟨b, off + k * 8 + 6, none⟩ = some (.int .i64 L[k].created) := hc 6 _ rfl
      have c7 : wr.cell? ⟨b, off + k * 8 + 7, none⟩ = some (.int .i64 L[k].used) := hc 7 _ rfl
      have d0 : wr.cell? ⟨b', off' + k * 8, none⟩ = some (.string L[k].proj) := hd 0 _ rfl
      have d1 : wr.cell? ⟨b', off' + k * 8 + 1, none⟩ = some (.int .i64 L[k].trust) := hd 1 _ rfl
      have d2 : wr.cell? ⟨b', off' + k * 8 + 2, none⟩ = some (.string L[k].ref) := hd 2 _ rfl
      have d3 : wr.cell? ⟨b', off' + k * 8 + 3, none⟩ = some (.string L[k].key) := hd 3 _ rfl
      have d4 : wr.cell? ⟨b', off' + k * 8 + 4, none⟩ = some (.int .u64 (L[k].dig : Nat)) := hd 4 _ rfl
      have d5 : wr.cell? ⟨b', off' + k * 8 + 5, none⟩ = some (.int .i64 L[k].size) := hd 5 _ rfl
      have d6 : wr.cell? ⟨b', off' + k * 8 + 6, none⟩ = some (.int .i64 L[k].created) := hd 6 _ rfl
      have d7 : wr.cell? ⟨b', off' + k * 8 + 7, none⟩ = some (.int .i64 L[k].used) := hd 7 _ rfl
      clear hc hd hR hS
      have hii : (k : Int) < (L.length : Int) := by omega
      generalize L[k] = q at *
      go_wp2_with fail
      go_region
      go_wp2
      go_roundg (L.length - (k + 1))
      case measure => omega
      case rel => exact ⟨k + 1, by go_num, by omega, rfl, HB.out.drew⟩
    · have hii : ¬ (k : Int) < (L.length : Int) := by omega
      go_wp2_with fail
      go_ret
      exact ⟨rfl, HB.out⟩
set_option maxRecDepth 100000 in
set_option maxHeartbeats 3200000 in
theorem tsts_same (L : List TstM) (u v : Value) (B C : Nat → Prop) (hl : L.length ≤ 9223372036854775807) (w : World) (h : ETst.Row B w L u) (h2 : ETst.Row C w L v) :
    Calls Tryz.prog 57 #[u, v] w fun e w' => e = .returned (.bool true) ∧ Below w.heap.size w w' := by
  obtain ⟨ao, cap, rfl⟩ := h.form
  obtain ⟨bo, bcap, rfl⟩ := h2.form
  have H := Lib.hid h
  have H2 := Lib.hid h2
  clear h h2
  go_enter Tryz.func57, Tryz.ntmps57
  go_wp2_with fail
  go_loopg [5] L.length (SaRel1 w L.length)
  case atStart => exact ⟨0, rfl, Nat.zero_le _, rfl, Below.refl _ _⟩
  case round =>
    obtain ⟨k, rfl, hk, rfl, hbel⟩ := hrel
    have HB := Lib.hid hbel
    clear hbel
    by_cases hlt : k < L.length
    · obtain ⟨b, off, cs, rfl, _, _, hc, hR⟩ := (H.out.below HB.out).at hlt
      obtain ⟨b', off', ds, rfl, _, _, hd, hS⟩ := (H2.out.below HB.out).at hlt
      have hcs : cs = [.string L[k].name, .int .i64 L[k].status, .int .i64 L[k].time] := hR
      have hds : ds = [.string L[k].name, .int .i64 L[k].status, .int .i64 L[k].time] := hS
      subst hcs hds
      have c0 : wr.cell? ⟨b, off + k * 3, none⟩ = some (.string L[k].name) := hc 0 _ rfl
      have c1 : wr.cell? ⟨b, off + k * 3 + 1, none⟩ = some (.int .i64 L[k].status) := hc 1 _ rfl
      have c2 : wr.cell? ⟨b, off + k * 3 + 2, none⟩ = some (.int .i64 L[k].time) := hc 2 _ rfl
      have d0 : wr.cell? ⟨b', off' + k * 3, none⟩ = some (.string L[k].name) := hd 0 _ rfl
      have d1 : wr.cell? ⟨b', off' + k * 3 + 1, none⟩ = some (.int .i64 L[k].status) := hd 1 _ rfl
      have d2 : wr.cell? ⟨b', off' + k * 3 + 2, none⟩ = some (.int .i64 L[k].time) := hd 2 _ rfl
      clear hc hd hR hS
      have hii : (k : Int) < (L.length : Int) := by omega
      generalize L[k] = q at *
      go_wp2_with fail
      go_region
      go_wp2
      go_roundg (L.length - (k + 1))
      case measure => omega
      case rel => exact ⟨k + 1, by go_num, by omega, rfl, HB.out.drew⟩
    · have hii : ¬ (k : Int) < (L.length : Int) := by omega
      go_wp2_with fail
      go_ret
      exact ⟨rfl, HB.out⟩
end Go.Proofs.YtghahghbahcpfaaGreatDoor
/- The walks over the reference's Results and Same at contents that are the same. -/
namespace Go.Proofs.YtghahghbahcpfaaGreatDoor
open Go.RowKit

def resC (st cl : Int) (i o t : Value) (ch : ByteArray) : Array Value := #[.int .i64 st, .int .i64 cl, i, o, t, .string ch]
set_option maxRecDepth 100000 in
set_option maxHeartbeats 3200000 in
theorem results_same (st cl : Int) (ch : ByteArray) (EI EO : List OutM) (ET : List TstM) (iu ou tu iv ov tv : Value) (B C : Nat → Prop) (l1 : EI.length ≤ 9223372036854775807) (l2 : EO.length ≤ 9223372036854775807) (l3 : ET.length ≤ 9223372036854775807) (w : World)
    (h1 : EOut.Row B w EI iu) (h2 : EOut.Row B w EO ou) (h3 : ETst.Row B w ET tu) (k1 : EOut.Row C w EI iv) (k2 : EOut.Row C w EO ov) (k3 : ETst.Row C w ET tv) :
    Calls Tryz.prog 29 #[.agg (resC st cl iu ou tu ch), .agg (resC st cl iv ov tv ch)] w fun e w' => e = .returned (.bool true) ∧ Below w.heap.size w w' := by
  unfold resC
  obtain ⟨w1, hw1⟩ : ∃ w1, w.alloc (.cells #[.int .i64 st, .int .i64 cl, iu, ou, tu, .string ch] tRes (0, 0)) = w1 := ⟨_, rfl⟩
  obtain ⟨w2, hw2⟩ : ∃ w2, w1.alloc (.cells #[.int .i64 st, .int .i64 cl, iv, ov, tv, .string ch] tRes (0, 0)) = w2 := ⟨_, rfl⟩
  have hs1 : w1.heap.size = w.heap.size + 1 := by rw [← hw1]; simp
  have hs2 : w2.heap.size = w.heap.size + 1 + 1 := by rw [← hw2]; simp [hs1]
  have hk1 : w2.heap[w.heap.size]? = some (.cells #[.int .i64 st, .int .i64 cl, iu, ou, tu, .string ch] tRes (0, 0)) := by rw [← hw2]; exact (hp_old (by omega)).trans (by rw [← hw1]; exact hp_new rfl)
  have hk2 : w2.heap[w.heap.size + 1]? = some (.cells #[.int .i64 st, .int .i64 cl, iv, ov, tv, .string ch] tRes (0, 0)) := by rw [← hw2]; exact hp_new (by omega)
  have hb2 : Below w.heap.size w w2 := by rw [← hw2, ← hw1]; exact ((Below.refl _ w).alloc (Nat.le_refl _) _).alloc (by simp) _
  obtain ⟨a1, c1, rfl⟩ := h1.form
  obtain ⟨a2, c2, rfl⟩ := h2.form
  obtain ⟨a3, c3, rfl⟩ := h3.form
  obtain ⟨b1, d1, rfl⟩ := k1.form
  obtain ⟨b2, d2, rfl⟩ := k2.form
  obtain ⟨b3, d3, rfl⟩ := k3.form
  have HB2 := Lib.hid hb2
  have HW1 := Lib.hid hw1
  have HW2 := Lib.hid hw2
  have HG : Hid (∀ W, Below w2.heap.size w2 W → W.cell? ⟨w.heap.size, 0, none⟩ = some (.int .i64 st) ∧ W.cell? ⟨w.heap.size, 1, none⟩ = some (.int .i64 cl) ∧ W.cell? ⟨w.heap.size, 2, none⟩ = some (.slice a1 EI.length c1) ∧ W.cell? ⟨w.heap.size, 3, none⟩ = some (.slice a2 EO.length c2) ∧ W.cell? ⟨w.heap.size, 4, none⟩ = some (.slice a3 ET.length c3) ∧ W.cell? ⟨w.heap.size, 5, none⟩ = some (.string ch) ∧
      W.cell? ⟨w.heap.size + 1, 0, none⟩ = some (.int .i64 st) ∧ W.cell? ⟨w.heap.size + 1, 1, none⟩ = some (.int .i64 cl) ∧ W.cell? ⟨w.heap.size + 1, 2, none⟩ = some (.slice b1 EI.length d1) ∧ W.cell? ⟨w.heap.size + 1, 3, none⟩ = some (.slice b2 EO.length d2) ∧ W.cell? ⟨w.heap.size + 1, 4, none⟩ = some (.slice b3 ET.length d3) ∧ W.cell? ⟨w.heap.size + 1, 5, none⟩ = some (.string ch)) := fun W hb => by
    have q1 := (hb.block _ (show w.heap.size < _ by omega)).trans hk1
    have q2 := (hb.block _ (show w.heap.size + 1 < _ by omega)).trans hk2
    exact ⟨cell_of_blk q1 0, cell_of_blk q1 1, cell_of_blk q1 2, cell_of_blk q1 3, cell_of_blk q1 4, cell_of_blk q1 5, cell_of_blk q2 0, cell_of_blk q2 1, cell_of_blk q2 2, cell_of_blk q2 3, cell_of_blk q2 4, cell_of_blk q2 5⟩
  have z2 : w.heap.size ≤ w2.heap.size := by omega
  have R1 := Lib.hid (fun W (hb : Below w2.heap.size w2 W) => outs_same EI _ _ _ _ l1 W (h1.below (hb2.trans (hb.mono z2))) (k1.below (hb2.trans (hb.mono z2))))
  have R2 := Lib.hid (fun W (hb : Below w2.heap.size w2 W) => outs_same EO _ _ _ _ l2 W (h2.below (hb2.trans (hb.mono z2))) (k2.below (hb2.trans (hb.mono z2))))
  have R3 := Lib.hid (fun W (hb : Below w2.heap.size w2 W) => tsts_same ET _ _ _ _ l3 W (h3.below (hb2.trans (hb.mono z2))) (k3.below (hb2.trans (hb.mono z2))))
  generalize EI.length = n1 at *
  generalize EO.length = n2 at *
  generalize ET.length = n3 at *
  have HR2 : Hid (Below w2.heap.size w2 w2) := Below.refl _ _
  clear h1 h2 h3 k1 k2 k3 hw1 hw2 hs1 hs2 hk1 hk2 hb2 l1 l2 l3
  go_enter Tryz.func29, Tryz.ntmps29
  go_upto_region 1 with fail
  rw [HW1.out, HW2.out]
  clear HW1 HW2
  obtain ⟨e0, e1, e2, e3, e4, e5, g0, g1, g2, g3, g4, g5⟩ := HG.out _ HR2.out
  go_wp2_with fail
  refine (R1.out _ HR2.out).mono ?_
  rintro e w3 ⟨rfl, hb3⟩
  have HB3 := Lib.hid hb3
  clear hb3 R1 e0 e1 e2 e3 e4 e5 g0 g1 g2 g3 g4 g5
  obtain ⟨e0, e1, e2, e3, e4, e5, g0, g1, g2, g3, g4, g5⟩ := HG.out _ HB3.out
  go_wp2_with fail
  refine (R2.out _ HB3.out).mono ?_
  rintro e w4 ⟨rfl, hb4⟩
  have HB4 := Lib.hid (HB3.out.trans (hb4.mono HB3.out.size))
  clear hb4 R2 e0 e1 e2 e3 e4 e5 g0 g1 g2 g3 g4 g5
  obtain ⟨e0, e1, e2, e3, e4, e5, g0, g1, g2, g3, g4, g5⟩ := HG.out _ HB4.out
  go_wp2_with fail
  refine (R3.out _ HB4.out).mono ?_
  rintro e w5 ⟨rfl, hb5⟩
  have HB5 := Lib.hid (HB4.out.trans (hb5.mono HB4.out.size))
  clear hb5 R3 e0 e1 e2 e3 e4 e5 g0 g1 g2 g3 g4 g5
  go_wp2_with fail
  go_ret
  exact ⟨rfl, HB2.out.trans (HB5.out.mono z2)⟩
set_option maxRecDepth 100000 in
set_option maxHeartbeats 3200000 in
theorem same_same (E : EffM) (u v : Value) (B C : Nat → Prop) (l1 : E.inputs.length ≤ 9223372036854775807) (l2 : E.outputs.length ≤ 9223372036854775807) (l3 : E.tests.length ≤ 9223372036854775807) (l4 : E.saves.length ≤ 9223372036854775807) (w : World) (h : EffAt B w E u) (k : EffAt C w E v) :
    Calls Tryz.prog 12 #[u, v] w fun e w' => e = .returned (.bool true) ∧ Below w.heap.size w w' := by
  obtain ⟨iu, ou, tu, su, lu, rfl, hl, h1, h2, h3, h4⟩ := h
  obtain ⟨iv, ov, tv, sv, lv, rfl, kl, k1, k2, k3, k4⟩ := k
  have hlv : lv = lu := ByteArray.ext (Array.ext' (kl.trans hl.symm))
  subst hlv
  obtain ⟨st, cl, EI, EO, ET, ch, lg, tm, ES⟩ := E
  dsimp only at *
  obtain ⟨a1, c1, rfl⟩ := h1.form
  obtain ⟨a2, c2, rfl⟩ := h2.form
  obtain ⟨a3, c3, rfl⟩ := h3.form
  obtain ⟨a4, c4, rfl⟩ := h4.form
  obtain ⟨b1, d1, rfl⟩ := k1.form
  obtain ⟨b2, d2, rfl⟩ := k2.form
  obtain ⟨b3, d3, rfl⟩ := k3.form
  obtain ⟨b4, d4, rfl⟩ := k4.form
  obtain ⟨w1, hw1⟩ : ∃ w1, w.alloc (.cells #[.int .i64 st, .int .i64 cl, .slice a1 EI.length c1, .slice a2 EO.length c2, .slice a3 ET.length c3, .string ch, .string lv, .int .i64 tm, .slice a4 ES.length c4] tEff (0, 0)) = w1 := ⟨_, rfl⟩
  obtain ⟨w2, hw2⟩ : ∃ w2, w1.alloc (.cells #[.int .i64 st, .int .i64 cl, .slice b1 EI.length d1, .slice b2 EO.length d2, .slice b3 ET.length d3, .string ch, .string lv, .int .i64 tm, .slice b4 ES.length d4] tEff (0, 0)) = w2 := ⟨_, rfl⟩
  have hs1 : w1.heap.size = w.heap.size + 1 := by rw [← hw1]; simp
  have hs2 : w2.heap.size = w.heap.size + 1 + 1 := by rw [← hw2]; simp [hs1]
  have hk1 : w2.heap[w.heap.size]? = some (.cells #[.int .i64 st, .int .i64 cl, .slice a1 EI.length c1, .slice a2 EO.length c2, .slice a3 ET.length c3, .string ch, .string lv, .int .i64 tm, .slice a4 ES.length c4] tEff (0, 0)) := by rw [← hw2]; exact (hp_old (by omega)).trans (by rw [← hw1]; exact hp_new rfl)
  have hk2 : w2.heap[w.heap.size + 1]? = some (.cells #[.int .i64 st, .int .i64 cl, .slice b1 EI.length d1, .slice b2 EO.length d2, .slice b3 ET.length d3, .string ch, .string lv, .int .i64 tm, .slice b4 ES.length d4] tEff (0, 0)) := by rw [← hw2]; exact hp_new (by omega)
  have hb2 : Below w.heap.size w w2 := by rw [← hw2, ← hw1]; exact ((Below.refl _ w).alloc (Nat.le_refl _) _).alloc (by simp) _
  have HB2 := Lib.hid hb2
  have HW1 := Lib.hid hw1
  have HW2 := Lib.hid hw2
  have HG : Hid (∀ W, Below w2.heap.size w2 W → W.cell? ⟨w.heap.size, 0, none⟩ = some (.int .i64 st) ∧ W.cell? ⟨w.heap.size, 1, none⟩ = some (.int .i64 cl) ∧ W.cell? ⟨w.heap.size, 2, none⟩ = some (.slice a1 EI.length c1) ∧ W.cell? ⟨w.heap.size, 3, none⟩ = some (.slice a2 EO.length c2) ∧ W.cell? ⟨w.heap.size, 4, none⟩ = some (.slice a3 ET.length c3) ∧ W.cell? ⟨w.heap.size, 5, none⟩ = some (.string ch) ∧ W.cell? ⟨w.heap.size, 6, none⟩ = some (.string lv) ∧ W.cell? ⟨w.heap.size, 7, none⟩ = some (.int .i64 tm) ∧ W.cell? ⟨w.heap.size, 8, none⟩ = some (.slice a4 ES.length c4) ∧
      W.cell? ⟨w.heap.size + 1, 0, none⟩ = some (.int .i64 st) ∧ W.cell? ⟨w.heap.size + 1, 1, none⟩ = some (.int .i64 cl) ∧ W.cell? ⟨w.heap.size + 1, 2, none⟩ = some (.slice b1 EI.length d1) ∧ W.cell? ⟨w.heap.size + 1, 3, none⟩ = some (.slice b2 EO.length d2) ∧ W.cell? ⟨w.heap.size + 1, 4, none⟩ = some (.slice b3 ET.length d3) ∧ W.cell? ⟨w.heap.size + 1, 5, none⟩ = some (.string ch) ∧ W.cell? ⟨w.heap.size + 1, 6, none⟩ = some (.string lv) ∧ W.cell? ⟨w.heap.size + 1, 7, none⟩ = some (.int .i64 tm) ∧ W.cell? ⟨w.heap.size + 1, 8, none⟩ = some (.slice b4 ES.length d4)) := fun W hb => by
    have q1 := (hb.block _ (show w.heap.size < _ by omega)).trans hk1
    have q2 := (hb.block _ (show w.heap.size + 1 < _ by omega)).trans hk2
    exact ⟨cell_of_blk q1 0, cell_of_blk q1 1, cell_of_blk q1 2, cell_of_blk q1 3, cell_of_blk q1 4, cell_of_blk q1 5, cell_of_blk q1 6, cell_of_blk q1 7, cell_of_blk q1 8, cell_of_blk q2 0, cell_of_blk q2 1, cell_of_blk q2 2, cell_of_blk q2 3, cell_of_blk q2 4, cell_of_blk q2 5, cell_of_blk q2 6, cell_of_blk q2 7, cell_of_blk q2 8⟩
  have z2 : w.heap.size ≤ w2.heap.size := by omega
  have R1 := Lib.hid (fun W (hb : Below w2.heap.size w2 W) => ents_same ES _ _ _ _ l4 W (h4.below (hb2.trans (hb.mono z2))) (k4.below (hb2.trans (hb.mono z2))))
  have R2 := Lib.hid (fun W (hb : Below w2.heap.size w2 W) => results_same st cl ch EI EO ET _ _ _ _ _ _ _ _ l1 l2 l3 W (h1.below (hb2.trans (hb.mono z2))) (h2.below (hb2.trans (hb.mono z2))) (h3.below (hb2.trans (hb.mono z2))) (k1.below (hb2.trans (hb.mono z2))) (k2.below (hb2.trans (hb.mono z2))) (k3.below (hb2.trans (hb.mono z2))))
  unfold resC at R2
  generalize EI.length = n1 at *
  generalize EO.length = n2 at *
  generalize ET.length = n3 at *
  generalize ES.length = n4 at *
  have HR2 : Hid (Below w2.heap.size w2 w2) := Below.refl _ _
  clear h1 h2 h3 h4 k1 k2 k3 k4 hw1 hw2 hs1 hs2 hk1 hk2 hb2 l1 l2 l3 l4 hl kl
  go_enter Tryz.func12, Tryz.ntmps12
  go_upto_region 1 with fail
  rw [HW1.out, HW2.out]
  clear HW1 HW2
  obtain ⟨e0, e1, e2, e3, e4, e5, e6, e7, e8, g0, g1, g2, g3, g4, g5, g6, g7, g8⟩ := HG.out _ HR2.out
  go_wp2_with fail
  refine (R1.out _ HR2.out).mono ?_
  rintro e w3 ⟨rfl, hb3⟩
  have HB3 := Lib.hid hb3
  clear hb3 R1 e0 e1 e2 e3 e4 e5 e6 e7 e8 g0 g1 g2 g3 g4 g5 g6 g7 g8
  obtain ⟨e0, e1, e2, e3, e4, e5, e6, e7, e8, g0, g1, g2, g3, g4, g5, g6, g7, g8⟩ := HG.out _ HB3.out
  go_wp2_with fail
  refine (R2.out _ HB3.out).mono ?_
  rintro e w4 ⟨rfl, hb4⟩
  have HB4 := Lib.hid (HB3.out.trans (hb4.mono HB3.out.size))
  clear hb4 R2 e0 e1 e2 e3 e4 e5 e6 e7 e8 g0 g1 g2 g3 g4 g5 g6 g7 g8
  go_wp2_with fail
  go_ret
  exact ⟨rfl, HB2.out.trans (HB4.out.mono z2)⟩
end Go.Proofs.YtghahghbahcpfaaGreatDoor
/- Two executions one after the other: their effects in two blocks. -/
namespace Go.Proofs.YtghahghbahcpfaaGreatDoor
open Go.RowKit

section
variable {P : Program} {md : Region.Mode} {ops : Array Oper} {Q : Exit → Act → World → Prop} {S : World → Prop} {z : Nat}
theorem wpAnyZ_three {i j k : Nat} {o p q : Oper} {n : Nat} {listed : Array Bool} {a : Act} {w : World} (hr : Region.ready md ops listed = [i, j, k]) (ho : ops.toList[i]? = some o) (hp : ops.toList[j]? = some p) (hq : ops.toList[k]? = some q)
    (h1 : ∀ K' : Act → World → Prop, Shut (∀ a w, (i < z → S w) → ((i < z → S w) → wpAnyZ P md ops Q S z n (listed.setIfInBounds i true) a w) → K' a w) → if Region.wanted o (yielded ops a.tmps) = true then Oper.wp P o a w K' Q else K' (a.put o.dst undef) w)
    (h2 : ∀ K' : Act → World → Prop, Shut (∀ a w, (j < z → S w) → ((j < z → S w) → wpAnyZ P md ops Q S z n (listed.setIfInBounds j true) a w) → K' a w) → if Region.wanted p (yielded ops a.tmps) = true then Oper.wp P p a w K' Q else K' (a.put p.dst undef) w)
    (h3 : ∀ K' : Act → World → Prop, Shut (∀ a w, (k < z → S w) → ((k < z → S w) → wpAnyZ P md ops Q S z n (listed.setIfInBounds k true) a w) → K' a w) → if Region.wanted q (yielded ops a.tmps) = true then Oper.wp P q a w K' Q else K' (a.put q.dst undef) w) :
    wpAnyZ P md ops Q S z (n + 1) listed a w :=
  ⟨fun h0 => (by rw [hr] at h0; cases h0), fun x hx => by
    rw [hr] at hx
    rcases List.mem_cons.1 hx with rfl | hx
    · exact wpOp_step (at_list ho) (fun K' hK => h1 K' (fun a w hS hW => hK a w ⟨hS, hW hS⟩))
    rcases List.mem_cons.1 hx with rfl | hx
    · exact wpOp_step (at_list hp) (fun K' hK => h2 K' (fun a w hS hW => hK a w ⟨hS, hW hS⟩))
    · rw [List.mem_singleton.1 hx]
      exact wpOp_step (at_list hq) (fun K' hK => h3 K' (fun a w hS hW => hK a w ⟨hS, hW hS⟩))⟩
end
abbrev anyB : Nat → Prop := fun _ => True
theorem EffAt.any {B : Nat → Prop} {w : World} {E : EffM} {v : Value} (h : EffAt B w E v) : EffAt anyB w E v := by
  obtain ⟨iv, ov, tv, sv, lg, e, hl, h1, h2, h3, h4⟩ := h
  exact ⟨iv, ov, tv, sv, lg, e, hl, h1.mono fun _ _ => trivial, h2.mono fun _ _ => trivial, h3.mono fun _ _ => trivial, h4.mono fun _ _ => trivial⟩
theorem EffAt.below {B : Nat → Prop} {w w1 : World} {E : EffM} {v : Value} (h : EffAt B w E v) (hb : Below w.heap.size w w1) : EffAt B w1 E v := by
  obtain ⟨iv, ov, tv, sv, lg, e, hl, h1, h2, h3, h4⟩ := h
  exact ⟨iv, ov, tv, sv, lg, e, hl, h1.below hb, h2.below hb, h3.below hb, h4.below hb⟩
theorem EffAt.mono {B B' : Nat → Prop} {w : World} {E : EffM} {v : Value} (h : EffAt B w E v) (hB : ∀ b, B b → B' b) : EffAt B' w E v := by
  obtain ⟨iv, ov, tv, sv, lg, e, hl, h1, h2, h3, h4⟩ := h
  exact ⟨iv, ov, tv, sv, lg, e, hl, h1.mono hB, h2.mono hB, h3.mono hB, h4.mono hB⟩
theorem EffAt.lt {B : Nat → Prop} {w : World} {E : EffM} {v : Value} (h : EffAt B w E v) : EffAt (fun b => B b ∧ b < w.heap.size) w E v := by
  obtain ⟨iv, ov, tv, sv, lg, e, hl, h1, h2, h3, h4⟩ := h
  exact ⟨iv, ov, tv, sv, lg, e, hl, h1.lt, h2.lt, h3.lt, h4.lt⟩
theorem EffAt.wrote {B : Nat → Prop} {w w1 : World} {E : EffM} {v : Value} {g : Nat} {ob : Obj} (h : EffAt B w E v) (hB : ∀ b, B b → b ≠ g) (hw : Wrote g ob w w1) : EffAt B w1 E v := by
  obtain ⟨iv, ov, tv, sv, lg, e, hl, h1, h2, h3, h4⟩ := h
  have hs := Nat.le_of_eq hw.size.symm
  exact ⟨iv, ov, tv, sv, lg, e, hl, h1.keep hs fun b h1 _ => hw.block b (hB b h1), h2.keep hs fun b h1 _ => hw.block b (hB b h1), h3.keep hs fun b h1 _ => hw.block b (hB b h1), h4.keep hs fun b h1 _ => hw.block b (hB b h1)⟩
theorem EffAt.cells {B : Nat → Prop} {w : World} {E : EffM} {v : Value} (h : EffAt B w E v) : ∃ xs, v = .agg xs ∧ xs.size = 9 ∧ xs.toList.all (·.oneCell') = true := by
  obtain ⟨iv, ov, tv, sv, lg, e, hl, h1, h2, h3, h4⟩ := h
  obtain ⟨_, _, rfl⟩ := h1.form
  obtain ⟨_, _, rfl⟩ := h2.form
  obtain ⟨_, _, rfl⟩ := h3.form
  obtain ⟨_, _, rfl⟩ := h4.form
  exact ⟨_, e, rfl, rfl⟩
/-- an effect that lies in a block -/
def EffBlk (w : World) (b : Nat) (E : EffM) : Prop := ∃ xs, w.heap[b]? = some (.cells xs tEff (0, 0)) ∧ EffAt anyB w E (.agg xs)
theorem EffBlk.below {w w1 : World} {b : Nat} {E : EffM} (h : EffBlk w b E) (hb : Below w.heap.size w w1) : EffBlk w1 b E := by
  obtain ⟨xs, h1, h2⟩ := h
  exact ⟨xs, (hb.block b (Array.getElem?_eq_some_iff.1 h1).1).trans h1, h2.below hb⟩
theorem two_effs {w w1 w2 : World} {E F : EffM} {xs ys : Array Value} {p q : Nat} {B C : Nat → Prop} (hE : EffAt B w E (.agg xs)) (hF : EffAt C w F (.agg ys)) (hB : ∀ b, B b → b ≠ p ∧ b ≠ q) (hC : ∀ b, C b → b ≠ p ∧ b ≠ q) (hpq : p ≠ q)
    (h1 : Wrote p (.cells xs tEff (0, 0)) w w1) (h2 : Wrote q (.cells ys tEff (0, 0)) w1 w2) : EffBlk w2 p E ∧ EffBlk w2 q F :=
  ⟨⟨xs, (h2.block p hpq).trans h1.at_, ((hE.wrote (fun b hb => (hB b hb).1) h1).wrote (fun b hb => (hB b hb).2) h2).any⟩,
   ⟨ys, h2.at_, ((hF.wrote (fun b hb => (hC b hb).1) h1).wrote (fun b hb => (hC b hb).2) h2).any⟩⟩
/-- what a region leaves that runs two executions -/
def PairRel (w0 : World) (E F : EffM) (s6 s7 : Value) (wx : World) : Prop :=
  ∃ p q, s6 = .pointer (some ⟨p, 0, none⟩) ∧ s7 = .pointer (some ⟨q, 0, none⟩) ∧ EffBlk wx p E ∧ EffBlk wx q F ∧ w0.heap.size ≤ p ∧ w0.heap.size ≤ q ∧ Below w0.heap.size w0 wx
theorem alloc_here {w w1 : World} {ob : Obj} (h : w.alloc ob = w1) : w1.heap[w.heap.size]? = some ob ∧ Below w.heap.size w w1 ∧ w1.heap.size = w.heap.size + 1 := by
  subst h
  exact ⟨hp_new rfl, (Below.refl _ w).alloc (Nat.le_refl _) _, by simp⟩
theorem view_one {xb : Nat} {c : Nat → Value} {v : ViewM} {w : World} (h : VAt xb c v w) : (Value.agg (viewC c)).cells.toList.all (·.oneCell') = true := by
  obtain ⟨_, _, e0⟩ := h.files.form
  obtain ⟨_, _, e1⟩ := h.arts.form
  obtain ⟨_, _, e2⟩ := h.secs.form
  obtain ⟨_, _, e3⟩ := h.caches.form
  obtain ⟨_, _, e4⟩ := h.keys.form
  obtain ⟨_, _, e5⟩ := h.tests.form
  obtain ⟨_, _, e6⟩ := h.times.form
  obtain ⟨_, _, e7⟩ := h.ign.form
  show ([c 39, c 40, c 41, c 42, c 43, c 44, c 45, c 46, c 47] : List Value).all (·.oneCell') = true
  rw [e0, e1, e2, e3, e4, e5, e6, e7, h.att]
  rfl
end Go.Proofs.YtghahghbahcpfaaGreatDoor
