/- The walks over the reference's Declared, over its comparisons of secrets and views that are the same. -/
import Derived.Test.YtghahghbahcpfaaGreatDoorVo5
import Derived.Test.YtghahghbahcpfaaGreatDoorGPl
import Derived.Test.YtghahghbahcpfaaGreatDoorVs10
import Derived.Test.YtghahghbahcpfaaGreatDoorVo2
import Derived.StillTailTactics
namespace Go.Proofs.YtghahghbahcpfaaGreatDoor
open Go.RowKit

theorem decl_same (ss : List ByteArray) (p : ByteArray) : declF ss p = G6.ranyF ss p.data.toList := by
  unfold declF
  rw [G6.gany_same ss _ ss.length (Nat.le_refl _), List.take_length]
set_option maxRecDepth 100000 in
set_option maxHeartbeats 1600000 in
theorem rdecl_any (c : Nat → Value) (ss : List ByteArray) (io : Option Addr) (ic : Nat) (p : ByteArray) (B : Nat → Prop) (hs : p.size ≤ 1000000) (hn : ss.length ≤ 1000000) (hss : ∀ x ∈ ss, x.size ≤ 1000000) (e24 : c 24 = .slice io ss.length ic) (w : World) (h : EStr.Row B w ss (.slice io ss.length ic)) :
    Calls Tryz.prog 20 #[jobA c, .string p] w fun e w' => e = .returned (.bool (declF ss p)) ∧ Below w.heap.size w w' := by
  obtain ⟨w1, hw1⟩ : ∃ w1, w.alloc (.cells #[c 0, c 1, c 2, c 3, c 4, c 5, c 6, c 7, c 8, c 9, c 10, c 11, c 12, c 13, c 14, c 15, c 16, c 17, c 18, c 19, c 20, c 21, c 22, c 23, c 24, c 25, c 26, c 27, c 28, c 29, c 30, c 31, c 32, c 33, c 34, c 35, c 36, c 37, c 38] 38 (0, 0)) = w1 := ⟨_, rfl⟩
  have hk1 : w1.heap[w.heap.size]? = some (.cells #[c 0, c 1, c 2, c 3, c 4, c 5, c 6, c 7, c 8, c 9, c 10, c 11, c 12, c 13, c 14, c 15, c 16, c 17, c 18, c 19, c 20, c 21, c 22, c 23, c 24, c 25, c 26, c 27, c 28, c 29, c 30, c 31, c 32, c 33, c 34, c 35, c 36, c 37, c 38] 38 (0, 0)) := by rw [← hw1]; exact hp_new rfl
  have HB1 : Hid (Below w.heap.size w w1) := by unfold Hid; rw [← hw1]; exact (Below.refl _ w).alloc (Nat.le_refl _) _
  have c24 : w1.cell? ⟨w.heap.size, 24, none⟩ = some (.slice io ss.length ic) := by rw [← e24]; exact cell_of_blk hk1 24
  have GA := Lib.hid (G6.rany_any ss (.slice io ss.length ic) p hs hn hss w1 (strs6 (h.below HB1.out)))
  rw [← decl_same] at GA
  have HW1 := Lib.hid hw1
  clear h hss hk1 hw1 e24
  go_enter Tryz.func20, Tryz.ntmps20
  go_upto_region 1 with fail
  rw [HW1.out]
  clear HW1
  go_wp2_with fail
  refine GA.out.mono ?_
  rintro e w2 ⟨rfl, hb⟩
  have HB2 := Lib.hid (HB1.out.trans (hb.mono HB1.out.size))
  clear hb
  go_wp2_with fail
  go_ret
  exact ⟨rfl, HB2.out⟩
set_option maxRecDepth 100000 in
set_option maxHeartbeats 3200000 in
theorem equal41_yes (nm tx : ByteArray) (lv : Int) (rs es : List ByteArray) (ra ea ra' ea' : Option Addr) (rc ec rc' ec' : Nat) (B C : Nat → Prop) (l1 : rs.length ≤ 9223372036854775807) (l2 : es.length ≤ 9223372036854775807) (w : World)
    (h1 : EStr.Row B w rs (.slice ra rs.length rc)) (h2 : EStr.Row B w es (.slice ea es.length ec)) (k1 : EStr.Row C w rs (.slice ra' rs.length rc')) (k2 : EStr.Row C w es (.slice ea' es.length ec')) :
    Calls Tryz.prog 70 #[.agg #[.string nm, .string tx, .int .i64 lv, .slice ra rs.length rc, .slice ea es.length ec], .agg #[.string nm, .string tx, .int .i64 lv, .slice ra' rs.length rc', .slice ea' es.length ec']] w fun e w' => e = .returned (.bool true) ∧ Below w.heap.size w w' := by
  obtain ⟨w1, hw1⟩ : ∃ w1, w.alloc (.cells #[.string nm, .string tx, .int .i64 lv, .slice ra rs.length rc, .slice ea es.length ec] 110 (0, 0)) = w1 := ⟨_, rfl⟩
  obtain ⟨w2, hw2⟩ : ∃ w2, w1.alloc (.cells #[.string nm, .string tx, .int .i64 lv, .slice ra' rs.length rc', .slice ea' es.length ec'] 110 (0, 0)) = w2 := ⟨_, rfl⟩
  have hs1 : w1.heap.size = w.heap.size + 1 := by rw [← hw1]; simp
  have hs2 : w2.heap.size = w.heap.size + 1 + 1 := by rw [← hw2]; simp [hs1]
  have hk1 : w2.heap[w.heap.size]? = some (.cells #[.string nm, .string tx, .int .i64 lv, .slice ra rs.length rc, .slice ea es.length ec] 110 (0, 0)) := by rw [← hw2]; exact (hp_old (by omega)).trans (by rw [← hw1]; exact hp_new rfl)
  have hk2 : w2.heap[w.heap.size + 1]? = some (.cells #[.string nm, .string tx, .int .i64 lv, .slice ra' rs.length rc', .slice ea' es.length ec'] 110 (0, 0)) := by rw [← hw2]; exact hp_new (by omega)
  have hb2 : Below w.heap.size w w2 := by rw [← hw2, ← hw1]; exact ((Below.refl _ w).alloc (Nat.le_refl _) _).alloc (by simp) _
  have HB2 := Lib.hid hb2
  have HW1 := Lib.hid hw1
  have HW2 := Lib.hid hw2
  have HG : Hid (∀ W, Below w2.heap.size w2 W → W.cell? ⟨w.heap.size, 0, none⟩ = some (.string nm) ∧ W.cell? ⟨w.heap.size, 1, none⟩ = some (.string tx) ∧ W.cell? ⟨w.heap.size, 2, none⟩ = some (.int .i64 lv) ∧ W.cell? ⟨w.heap.size, 3, none⟩ = some (.slice ra rs.length rc) ∧ W.cell? ⟨w.heap.size, 4, none⟩ = some (.slice ea es.length ec) ∧ W.cell? ⟨w.heap.size + 1, 0, none⟩ = some (.string nm) ∧ W.cell? ⟨w.heap.size + 1, 1, none⟩ = some (.string tx) ∧ W.cell? ⟨w.heap.size + 1, 2, none⟩ = some (.int .i64 lv) ∧ W.cell? ⟨w.heap.size + 1, 3, none⟩ = some (.slice ra' rs.length rc') ∧ W.cell? ⟨w.heap.size + 1, 4, none⟩ = some (.slice ea' es.length ec')) := fun W hb => by
    have q1 := (hb.block _ (show w.heap.size < _ by omega)).trans hk1
    have q2 := (hb.block _ (show w.heap.size + 1 < _ by omega)).trans hk2
    exact ⟨cell_of_blk q1 0, cell_of_blk q1 1, cell_of_blk q1 2, cell_of_blk q1 3, cell_of_blk q1 4, cell_of_blk q2 0, cell_of_blk q2 1, cell_of_blk q2 2, cell_of_blk q2 3, cell_of_blk q2 4⟩
  have z2 : w.heap.size ≤ w2.heap.size := by omega
  have R1 := Lib.hid (fun W (hb : Below w2.heap.size w2 W) => strs_same rs _ _ _ _ l1 W (h1.below (hb2.trans (hb.mono z2))) (k1.below (hb2.trans (hb.mono z2))))
  have R2 := Lib.hid (fun W (hb : Below w2.heap.size w2 W) => strs_same es _ _ _ _ l2 W (h2.below (hb2.trans (hb.mono z2))) (k2.below (hb2.trans (hb.mono z2))))
  generalize rs.length = n1 at *
  generalize es.length = n2 at *
  clear h1 h2 k1 k2 l1 l2
  have HR2 : Hid (Below w2.heap.size w2 w2) := Below.refl _ _
  clear hw1 hw2 hs1 hs2 hk1 hk2 hb2
  go_enter Tryz.func70, Tryz.ntmps70
  go_upto_region 1 with fail
  rw [HW1.out, HW2.out]
  clear HW1 HW2
  obtain ⟨e0, e1, e2, e3, e4, g0, g1, g2, g3, g4⟩ := HG.out _ HR2.out
  go_wp2_with fail
  refine (R1.out _ HR2.out).mono ?_
  rintro e w3 ⟨rfl, hb3⟩
  have HB3 := Lib.hid (HR2.out.trans (hb3.mono HR2.out.size))
  clear hb3 R1 e0 e1 e2 e3 e4 g0 g1 g2 g3 g4
  obtain ⟨e0, e1, e2, e3, e4, g0, g1, g2, g3, g4⟩ := HG.out _ HB3.out
  go_wp2_with fail
  refine (R2.out _ HB3.out).mono ?_
  rintro e w4 ⟨rfl, hb4⟩
  have HB4 := Lib.hid (HB3.out.trans (hb4.mono HB3.out.size))
  clear hb4 R2 e0 e1 e2 e3 e4 g0 g1 g2 g3 g4
  go_wp2_with fail
  go_ret
  exact ⟨rfl, HB2.out.trans (HB4.out.mono z2)⟩
set_option maxRecDepth 100000 in
set_option maxHeartbeats 3200000 in
theorem secs_same (L : List SecM) (u v : Value) (B C : Nat → Prop) (hl : L.length ≤ 9223372036854775807) (hs : ∀ s ∈ L, s.refs.length ≤ 9223372036854775807 ∧ s.envs.length ≤ 9223372036854775807) (w : World) (h : ESec.Row B w L u) (h2 : ESec.Row C w L v) :
    Calls Tryz.prog 41 #[u, v] w fun e w' => e = .returned (.bool true) ∧ Below w.heap.size w w' := by
  obtain ⟨ao, cap, rfl⟩ := h.form
  obtain ⟨bo, bcap, rfl⟩ := h2.form
  have H := Lib.hid h
  have H2 := Lib.hid h2
  have HS := Lib.hid hs
  clear h h2 hs
  go_enter Tryz.func41, Tryz.ntmps41
  go_wp2_with fail
  go_loopg [5] L.length (SaRel1 w L.length)
  case atStart => exact ⟨0, rfl, Nat.zero_le _, rfl, Below.refl _ _⟩
  case round =>
    obtain ⟨k, rfl, hk, rfl, hbel⟩ := hrel
    have HB := Lib.hid hbel
    have HBD : Hid (Below w.heap.size w wr.drew) := hbel.drew
    clear hbel
    by_cases hlt : k < L.length
    · obtain ⟨b, off, cs, rfl, _, _, hc, hR⟩ := (H.out.below HBD.out).at hlt
      obtain ⟨b', off', ds, rfl, _, _, hd, hS⟩ := (H2.out.below HBD.out).at hlt
      obtain ⟨q1, q2⟩ := HS.out _ (List.getElem_mem hlt)
      obtain ⟨rv, ev, hcs, r1, r2⟩ := hR
      obtain ⟨sv, fv, hds, s1, s2⟩ := hS
      obtain ⟨ra, rc, rfl⟩ := r1.form
      obtain ⟨ea, ec, rfl⟩ := r2.form
      obtain ⟨ra', rc', rfl⟩ := s1.form
      obtain ⟨ea', ec', rfl⟩ := s2.form
      have EQ := Lib.hid (equal41_yes L[k].name L[k].text L[k].level L[k].refs L[k].envs ra ea ra' ea' rc ec rc' ec' _ _ q1 q2 _ r1 r2 s1 s2)
      subst hcs hds
      have c0 : wr.drew.cell? ⟨b, off + k * 5, none⟩ = some (.string L[k].name) := hc 0 _ rfl
      have c1 : wr.drew.cell? ⟨b, off + k * 5 + 1, none⟩ = some (.string L[k].text) := hc 1 _ rfl
      have c2 : wr.drew.cell? ⟨b, off + k * 5 + 2, none⟩ = some (.int .i64 L[k].level) := hc 2 _ rfl
      have c3 : wr.drew.cell? ⟨b, off + k * 5 + 3, none⟩ = some (.slice ra L[k].refs.length rc) := hc 3 _ rfl
      have c4 : wr.drew.cell? ⟨b, off + k * 5 + 4, none⟩ = some (.slice ea L[k].envs.length ec) := hc 4 _ rfl
      have d0 : wr.drew.cell? ⟨b', off' + k * 5, none⟩ = some (.string L[k].name) := hd 0 _ rfl
      have d1 : wr.drew.cell? ⟨b', off' + k * 5 + 1, none⟩ = some (.string L[k].text) := hd 1 _ rfl
      have d2 : wr.drew.cell? ⟨b', off' + k * 5 + 2, none⟩ = some (.int .i64 L[k].level) := hd 2 _ rfl
      have d3 : wr.drew.cell? ⟨b', off' + k * 5 + 3, none⟩ = some (.slice ra' L[k].refs.length rc') := hd 3 _ rfl
      have d4 : wr.drew.cell? ⟨b', off' + k * 5 + 4, none⟩ = some (.slice ea' L[k].envs.length ec') := hd 4 _ rfl
      have hii : (k : Int) < (L.length : Int) := by omega
      generalize L[k].refs.length = n1 at *
      generalize L[k].envs.length = n2 at *
      generalize L[k] = q at *
      clear hc hd r1 r2 s1 s2 q1 q2
      go_upto_region 6 with fail
      go_still_tail 8, (by kernel_rfl)
      change wpList _ _ _ _ _ (World.drew _)
      go_wp2_with fail
      refine EQ.out.mono ?_
      rintro e w3 ⟨rfl, hb3⟩
      have HB3 := Lib.hid (HBD.out.trans (hb3.mono HBD.out.size))
      clear hb3 EQ c0 c1 c2 c3 c4 d0 d1 d2 d3 d4
      go_wp2_with fail
      go_roundg (L.length - (k + 1))
      case measure => omega
      case rel => exact ⟨k + 1, by go_num, by omega, rfl, HB3.out⟩
    · have hii : ¬ (k : Int) < (L.length : Int) := by omega
      go_wp2_with fail
      go_ret
      exact ⟨rfl, HB.out⟩
structure VLen (x : ViewM) : Prop where
  files : x.files.length ≤ 9223372036854775807
  arts : x.arts.length ≤ 9223372036854775807
  secs : x.secs.length ≤ 9223372036854775807
  secN : ∀ s ∈ x.secs, s.refs.length ≤ 9223372036854775807 ∧ s.envs.length ≤ 9223372036854775807
  caches : x.caches.length ≤ 9223372036854775807
  keys : x.keys.length ≤ 9223372036854775807
  tests : x.tests.length ≤ 9223372036854775807
  times : x.times.length ≤ 9223372036854775807
  ign : x.ignored.length ≤ 9223372036854775807
set_option maxRecDepth 100000 in
set_option maxHeartbeats 3200000 in
theorem sameview_yes (x : ViewM) (c d : Nat → Value) (b1 b2 : Nat) (hl : VLen x) (w : World) (h : VAt b1 c x w) (k : VAt b2 d x w) :
    Calls Tryz.prog 16 #[viewA c, viewA d] w fun e w' => e = .returned (.bool true) ∧ Below w.heap.size w w' := by
  obtain ⟨a0, k0, p0⟩ := h.files.form
  obtain ⟨b0, m0, q0⟩ := k.files.form
  obtain ⟨a1, k1, p1⟩ := h.arts.form
  obtain ⟨b1, m1, q1⟩ := k.arts.form
  obtain ⟨a2, k2, p2⟩ := h.secs.form
  obtain ⟨b2, m2, q2⟩ := k.secs.form
  obtain ⟨a3, k3, p3⟩ := h.caches.form
  obtain ⟨b3, m3, q3⟩ := k.caches.form
  obtain ⟨a4, k4, p4⟩ := h.keys.form
  obtain ⟨b4, m4, q4⟩ := k.keys.form
  obtain ⟨a5, k5, p5⟩ := h.tests.form
  obtain ⟨b5, m5, q5⟩ := k.tests.form
  obtain ⟨a6, k6, p6⟩ := h.times.form
  obtain ⟨b6, m6, q6⟩ := k.times.form
  obtain ⟨a7, k7, p7⟩ := h.ign.form
  obtain ⟨b7, m7, q7⟩ := k.ign.form
  have hh := h
  have kk := k
  obtain ⟨w1, hw1⟩ : ∃ w1, w.alloc (.cells #[c 39, c 40, c 41, c 42, c 43, c 44, c 45, c 46, c 47] tView (0, 0)) = w1 := ⟨_, rfl⟩
  obtain ⟨w2, hw2⟩ : ∃ w2, w1.alloc (.cells #[d 39, d 40, d 41, d 42, d 43, d 44, d 45, d 46, d 47] tView (0, 0)) = w2 := ⟨_, rfl⟩
  have hs1 : w1.heap.size = w.heap.size + 1 := by rw [← hw1]; simp
  have hs2 : w2.heap.size = w.heap.size + 1 + 1 := by rw [← hw2]; simp [hs1]
  have hk1 : w2.heap[w.heap.size]? = some (.cells #[c 39, c 40, c 41, c 42, c 43, c 44, c 45, c 46, c 47] tView (0, 0)) := by rw [← hw2]; exact (hp_old (by omega)).trans (by rw [← hw1]; exact hp_new rfl)
  have hk2 : w2.heap[w.heap.size + 1]? = some (.cells #[d 39, d 40, d 41, d 42, d 43, d 44, d 45, d 46, d 47] tView (0, 0)) := by rw [← hw2]; exact hp_new (by omega)
  have hb2 : Below w.heap.size w w2 := by rw [← hw2, ← hw1]; exact ((Below.refl _ w).alloc (Nat.le_refl _) _).alloc (by simp) _
  have HB2 := Lib.hid hb2
  have HW1 := Lib.hid hw1
  have HW2 := Lib.hid hw2
  have HG : Hid (∀ W, Below w2.heap.size w2 W → W.cell? ⟨w.heap.size, 0, none⟩ = some (c 39) ∧ W.cell? ⟨w.heap.size, 1, none⟩ = some (c 40) ∧ W.cell? ⟨w.heap.size, 2, none⟩ = some (c 41) ∧ W.cell? ⟨w.heap.size, 3, none⟩ = some (c 42) ∧ W.cell? ⟨w.heap.size, 4, none⟩ = some (c 43) ∧ W.cell? ⟨w.heap.size, 5, none⟩ = some (c 44) ∧ W.cell? ⟨w.heap.size, 6, none⟩ = some (c 45) ∧ W.cell? ⟨w.heap.size, 7, none⟩ = some (c 46) ∧ W.cell? ⟨w.heap.size, 8, none⟩ = some (c 47) ∧ W.cell? ⟨w.heap.size + 1, 0, none⟩ = some (d 39) ∧ W.cell? ⟨w.heap.size + 1, 1, none⟩ = some (d 40) ∧ W.cell? ⟨w.heap.size + 1, 2, none⟩ = some (d 41) ∧ W.cell? ⟨w.heap.size + 1, 3, none⟩ = some (d 42) ∧ W.cell? ⟨w.heap.size + 1, 4, none⟩ = some (d 43) ∧ W.cell? ⟨w.heap.size + 1, 5, none⟩ = some (d 44) ∧ W.cell? ⟨w.heap.size + 1, 6, none⟩ = some (d 45) ∧ W.cell? ⟨w.heap.size + 1, 7, none⟩ = some (d 46) ∧ W.cell? ⟨w.heap.size + 1, 8, none⟩ = some (d 47)) := fun W hb => by
    have q1 := (hb.block _ (show w.heap.size < _ by omega)).trans hk1
    have q2 := (hb.block _ (show w.heap.size + 1 < _ by omega)).trans hk2
    exact ⟨cell_of_blk q1 0, cell_of_blk q1 1, cell_of_blk q1 2, cell_of_blk q1 3, cell_of_blk q1 4, cell_of_blk q1 5, cell_of_blk q1 6, cell_of_blk q1 7, cell_of_blk q1 8, cell_of_blk q2 0, cell_of_blk q2 1, cell_of_blk q2 2, cell_of_blk q2 3, cell_of_blk q2 4, cell_of_blk q2 5, cell_of_blk q2 6, cell_of_blk q2 7, cell_of_blk q2 8⟩
  have z2 : w.heap.size ≤ w2.heap.size := by omega
  have R0 := Lib.hid (fun W (hb : Below w2.heap.size w2 W) => files_same x.files _ _ _ _ hl.files W (h.files.below (hb2.trans (hb.mono z2))) (k.files.below (hb2.trans (hb.mono z2))))
  have R1 := Lib.hid (fun W (hb : Below w2.heap.size w2 W) => outs_same x.arts _ _ _ _ hl.arts W (h.arts.below (hb2.trans (hb.mono z2))) (k.arts.below (hb2.trans (hb.mono z2))))
  have R2 := Lib.hid (fun W (hb : Below w2.heap.size w2 W) => secs_same x.secs _ _ _ _ hl.secs hl.secN W (h.secs.below (hb2.trans (hb.mono z2))) (k.secs.below (hb2.trans (hb.mono z2))))
  have R3 := Lib.hid (fun W (hb : Below w2.heap.size w2 W) => ents_same x.caches _ _ _ _ hl.caches W (h.caches.below (hb2.trans (hb.mono z2))) (k.caches.below (hb2.trans (hb.mono z2))))
  have R4 := Lib.hid (fun W (hb : Below w2.heap.size w2 W) => strs_same x.keys _ _ _ _ hl.keys W (h.keys.below (hb2.trans (hb.mono z2))) (k.keys.below (hb2.trans (hb.mono z2))))
  have R5 := Lib.hid (fun W (hb : Below w2.heap.size w2 W) => strs_same x.tests _ _ _ _ hl.tests W (h.tests.below (hb2.trans (hb.mono z2))) (k.tests.below (hb2.trans (hb.mono z2))))
  have R6 := Lib.hid (fun W (hb : Below w2.heap.size w2 W) => tims_same x.times _ _ _ _ hl.times W (h.times.below (hb2.trans (hb.mono z2))) (k.times.below (hb2.trans (hb.mono z2))))
  have R7 := Lib.hid (fun W (hb : Below w2.heap.size w2 W) => strs_same x.ignored _ _ _ _ hl.ign W (h.ign.below (hb2.trans (hb.mono z2))) (k.ign.below (hb2.trans (hb.mono z2))))
  rw [h.att, k.att] at HG
  rw [p0, p1, p2, p3, p4, p5, p6, p7, q0, q1, q2, q3, q4, q5, q6, q7] at HG 
  rw [p0, q0] at R0
  rw [p1, q1] at R1
  rw [p2, q2] at R2
  rw [p3, q3] at R3
  rw [p4, q4] at R4
  rw [p5, q5] at R5
  rw [p6, q6] at R6
  rw [p7, q7] at R7
  generalize x.files.length = n0 at *
  generalize x.arts.length = n1 at *
  generalize x.secs.length = n2 at *
  generalize x.caches.length = n3 at *
  generalize x.keys.length = n4 at *
  generalize x.tests.length = n5 at *
  generalize x.times.length = n6 at *
  generalize x.ignored.length = n7 at *
  clear h k hh kk p0 q0 p1 q1 p2 q2 p3 q3 p4 q4 p5 q5 p6 q6 p7 q7
  have HR2 : Hid (Below w2.heap.size w2 w2) := Below.refl _ _
  clear hw1 hw2 hs1 hs2 hk1 hk2 hb2
  go_enter Tryz.func16, Tryz.ntmps16
  go_upto_region 1 with fail
  rw [HW1.out, HW2.out]
  clear HW1 HW2
  obtain ⟨e0, e1, e2, e3, e4, e5, e6, e7, e8, g0, g1, g2, g3, g4, g5, g6, g7, g8⟩ := HG.out _ HR2.out
  go_wp2_with fail
  refine (R0.out _ HR2.out).mono ?_
  rintro e w3 ⟨rfl, hb3⟩
  have HB3 := Lib.hid (HR2.out.trans (hb3.mono HR2.out.size))
  clear hb3 R0 e0 e1 e2 e3 e4 e5 e6 e7 e8 g0 g1 g2 g3 g4 g5 g6 g7 g8
  obtain ⟨e0, e1, e2, e3, e4, e5, e6, e7, e8, g0, g1, g2, g3, g4, g5, g6, g7, g8⟩ := HG.out _ HB3.out
  go_wp2_with fail
  refine (R1.out _ HB3.out).mono ?_
  rintro e w4 ⟨rfl, hb4⟩
  have HB4 := Lib.hid (HB3.out.trans (hb4.mono HB3.out.size))
  clear hb4 R1 e0 e1 e2 e3 e4 e5 e6 e7 e8 g0 g1 g2 g3 g4 g5 g6 g7 g8
  obtain ⟨e0, e1, e2, e3, e4, e5, e6, e7, e8, g0, g1, g2, g3, g4, g5, g6, g7, g8⟩ := HG.out _ HB4.out
  go_wp2_with fail
  refine (R2.out _ HB4.out).mono ?_
  rintro e w5 ⟨rfl, hb5⟩
  have HB5 := Lib.hid (HB4.out.trans (hb5.mono HB4.out.size))
  clear hb5 R2 e0 e1 e2 e3 e4 e5 e6 e7 e8 g0 g1 g2 g3 g4 g5 g6 g7 g8
  obtain ⟨e0, e1, e2, e3, e4, e5, e6, e7, e8, g0, g1, g2, g3, g4, g5, g6, g7, g8⟩ := HG.out _ HB5.out
  go_wp2_with fail
  refine (R3.out _ HB5.out).mono ?_
  rintro e w6 ⟨rfl, hb6⟩
  have HB6 := Lib.hid (HB5.out.trans (hb6.mono HB5.out.size))
  clear hb6 R3 e0 e1 e2 e3 e4 e5 e6 e7 e8 g0 g1 g2 g3 g4 g5 g6 g7 g8
  obtain ⟨e0, e1, e2, e3, e4, e5, e6, e7, e8, g0, g1, g2, g3, g4, g5, g6, g7, g8⟩ := HG.out _ HB6.out
  go_wp2_with fail
  refine (R4.out _ HB6.out).mono ?_
  rintro e w7 ⟨rfl, hb7⟩
  have HB7 := Lib.hid (HB6.out.trans (hb7.mono HB6.out.size))
  clear hb7 R4 e0 e1 e2 e3 e4 e5 e6 e7 e8 g0 g1 g2 g3 g4 g5 g6 g7 g8
  obtain ⟨e0, e1, e2, e3, e4, e5, e6, e7, e8, g0, g1, g2, g3, g4, g5, g6, g7, g8⟩ := HG.out _ HB7.out
  go_wp2_with fail
  refine (R5.out _ HB7.out).mono ?_
  rintro e w8 ⟨rfl, hb8⟩
  have HB8 := Lib.hid (HB7.out.trans (hb8.mono HB7.out.size))
  clear hb8 R5 e0 e1 e2 e3 e4 e5 e6 e7 e8 g0 g1 g2 g3 g4 g5 g6 g7 g8
  obtain ⟨e0, e1, e2, e3, e4, e5, e6, e7, e8, g0, g1, g2, g3, g4, g5, g6, g7, g8⟩ := HG.out _ HB8.out
  go_wp2_with fail
  refine (R6.out _ HB8.out).mono ?_
  rintro e w9 ⟨rfl, hb9⟩
  have HB9 := Lib.hid (HB8.out.trans (hb9.mono HB8.out.size))
  clear hb9 R6 e0 e1 e2 e3 e4 e5 e6 e7 e8 g0 g1 g2 g3 g4 g5 g6 g7 g8
  obtain ⟨e0, e1, e2, e3, e4, e5, e6, e7, e8, g0, g1, g2, g3, g4, g5, g6, g7, g8⟩ := HG.out _ HB9.out
  go_wp2_with fail
  refine (R7.out _ HB9.out).mono ?_
  rintro e w10 ⟨rfl, hb10⟩
  have HB10 := Lib.hid (HB9.out.trans (hb10.mono HB9.out.size))
  clear hb10 R7 e0 e1 e2 e3 e4 e5 e6 e7 e8 g0 g1 g2 g3 g4 g5 g6 g7 g8
  obtain ⟨e0, e1, e2, e3, e4, e5, e6, e7, e8, g0, g1, g2, g3, g4, g5, g6, g7, g8⟩ := HG.out _ HB10.out
  go_wp2_with fail
  go_ret
  exact ⟨rfl, HB2.out.trans (HB10.out.mono z2)⟩
end Go.Proofs.YtghahghbahcpfaaGreatDoor
