/- The walk over the law ValueValid. -/
import Derived.Test.YtbndgmbjfgmdnaaGreatDoorVl2
import Derived.Test.YtbndgmbjfgmdnaaGreatDoorVr11
import Derived.Test.YtbndgmbjfgmdnaaGreatDoorVk3
import Derived.Test.YtbndgmbjfgmdnaaGreatDoorVcm
import Derived.Deep.RegionHeld3
namespace Go.Proofs.YtbndgmbjfgmdnaaGreatDoor
open Go.RowKit Go.Deep

set_option maxRecDepth 100000 in
set_option maxHeartbeats 6400000 in
theorem valid_law (v0 : Value) (t0 : VT) (w : World) (hp : Pow w) (h0 : VAt w v0 t0) (wf0 : t0.wf) : Calls Tryz.prog 3 #[v0] w (LawPost w) := by
  have VA := fun W (hW : Below w.heap.size w W) => Lib.hid (valid_any v0 t0 W (h0.below hW) wf0)
  have RV := fun W (hW : Below w.heap.size w W) => Lib.hid (rvalid_any v0 t0 W (h0.below hW) wf0)
  have AW := fun W (hW : Below w.heap.size w W) => Lib.hid (awake_any W (hp.below hW))
  obtain ⟨lo0, lc0, ko0, kc0, rfl⟩ := h0.form
  generalize t0.kind = k0 at *
  generalize t0.bool = b0 at *
  generalize t0.int = n0 at *
  generalize t0.str = s0 at *
  generalize t0.list.length = ll0 at *
  generalize t0.keys.length = kl0 at *
  generalize validF t0 = ve at *
  clear h0
  obtain ⟨w1, hw1⟩ : ∃ w1, w.alloc (.cells #[.int .i64 k0, .bool b0, .int .i64 n0, .string s0, .slice lo0 ll0 lc0, .slice ko0 kl0 kc0] 25 (0, 0)) = w1 := ⟨_, rfl⟩
  have hz1 : w1.heap.size = w.heap.size + 1 := by rw [← hw1]; simp
  have hbx1 : Below w.heap.size w w1 := by rw [← hw1]; exact (Below.refl _ w).alloc (Nat.le_refl _) _
  have hk0 : w1.heap[w.heap.size]? = some (.cells #[.int .i64 k0, .bool b0, .int .i64 n0, .string s0, .slice lo0 ll0 lc0, .slice ko0 kl0 kc0] 25 (0, 0)) := by rw [← hw1]; exact hp_new (by omega)
  have HK0 := Lib.hid hk0
  have HB : Hid (Below w.heap.size w w1) := hbx1
  have HLT : Hid (w.heap.size + 1 ≤ w1.heap.size) := by unfold Hid; omega
  have HF : Hid (∀ W' : World, Below w1.heap.size w1 W' → W'.cell? ⟨w.heap.size, 0, none⟩ = some (.int .i64 k0) ∧ W'.cell? ⟨w.heap.size, 1, none⟩ = some (.bool b0) ∧ W'.cell? ⟨w.heap.size, 2, none⟩ = some (.int .i64 n0) ∧ W'.cell? ⟨w.heap.size, 3, none⟩ = some (.string s0) ∧ W'.cell? ⟨w.heap.size, 4, none⟩ = some (.slice lo0 ll0 lc0) ∧ W'.cell? ⟨w.heap.size, 5, none⟩ = some (.slice ko0 kl0 kc0) ∧ Below w1.heap.size w1 W') := fun W' hb => by
    have q0 := (hb.block (w.heap.size) (by have := HLT.out; omega)).trans HK0.out
    exact ⟨cell_of_blk q0 0, cell_of_blk q0 1, cell_of_blk q0 2, cell_of_blk q0 3, cell_of_blk q0 4, cell_of_blk q0 5, hb⟩
  have HS0 := Lib.hid (HF.out _ (Below.refl _ w1).drew)
  have HW1 := Lib.hid hw1
  have tv : ((ve : Int) == (ve : Int)) = true := by simp
  clear hp wf0
  have VA1 : Hid (∀ W' : World, W'.cell? ⟨w.heap.size, 0, none⟩ = some (.int .i64 k0) ∧ W'.cell? ⟨w.heap.size, 1, none⟩ = some (.bool b0) ∧ W'.cell? ⟨w.heap.size, 2, none⟩ = some (.int .i64 n0) ∧ W'.cell? ⟨w.heap.size, 3, none⟩ = some (.string s0) ∧ W'.cell? ⟨w.heap.size, 4, none⟩ = some (.slice lo0 ll0 lc0) ∧ W'.cell? ⟨w.heap.size, 5, none⟩ = some (.slice ko0 kl0 kc0) ∧ Below w1.heap.size w1 W' → Calls Tryz.prog 12 #[.agg #[.int .i64 k0, .bool b0, .int .i64 n0, .string s0, .slice lo0 ll0 lc0, .slice ko0 kl0 kc0]] W' fun e w' => e = .returned (.int .i64 (ve : Int)) ∧ w'.cell? ⟨w.heap.size, 0, none⟩ = some (.int .i64 k0) ∧ w'.cell? ⟨w.heap.size, 1, none⟩ = some (.bool b0) ∧ w'.cell? ⟨w.heap.size, 2, none⟩ = some (.int .i64 n0) ∧ w'.cell? ⟨w.heap.size, 3, none⟩ = some (.string s0) ∧ w'.cell? ⟨w.heap.size, 4, none⟩ = some (.slice lo0 ll0 lc0) ∧ w'.cell? ⟨w.heap.size, 5, none⟩ = some (.slice ko0 kl0 kc0) ∧ Below w1.heap.size w1 w') := fun W' hS => (VA W' (HB.out.trans ((hS.2.2.2.2.2.2).mono HB.out.size))).out.mono (by
    rintro e w' ⟨rfl, hb⟩
    exact ⟨rfl, HF.out w' ((hS.2.2.2.2.2.2).trans (hb.mono (hS.2.2.2.2.2.2).size))⟩)
  have RV1 : Hid (∀ W' : World, W'.cell? ⟨w.heap.size, 0, none⟩ = some (.int .i64 k0) ∧ W'.cell? ⟨w.heap.size, 1, none⟩ = some (.bool b0) ∧ W'.cell? ⟨w.heap.size, 2, none⟩ = some (.int .i64 n0) ∧ W'.cell? ⟨w.heap.size, 3, none⟩ = some (.string s0) ∧ W'.cell? ⟨w.heap.size, 4, none⟩ = some (.slice lo0 ll0 lc0) ∧ W'.cell? ⟨w.heap.size, 5, none⟩ = some (.slice ko0 kl0 kc0) ∧ Below w1.heap.size w1 W' → Calls Tryz.prog 13 #[.agg #[.int .i64 k0, .bool b0, .int .i64 n0, .string s0, .slice lo0 ll0 lc0, .slice ko0 kl0 kc0]] W' fun e w' => e = .returned (.int .i64 (ve : Int)) ∧ w'.cell? ⟨w.heap.size, 0, none⟩ = some (.int .i64 k0) ∧ w'.cell? ⟨w.heap.size, 1, none⟩ = some (.bool b0) ∧ w'.cell? ⟨w.heap.size, 2, none⟩ = some (.int .i64 n0) ∧ w'.cell? ⟨w.heap.size, 3, none⟩ = some (.string s0) ∧ w'.cell? ⟨w.heap.size, 4, none⟩ = some (.slice lo0 ll0 lc0) ∧ w'.cell? ⟨w.heap.size, 5, none⟩ = some (.slice ko0 kl0 kc0) ∧ Below w1.heap.size w1 w') := fun W' hS => (RV W' (HB.out.trans ((hS.2.2.2.2.2.2).mono HB.out.size))).out.mono (by
    rintro e w' ⟨rfl, hb⟩
    exact ⟨rfl, HF.out w' ((hS.2.2.2.2.2.2).trans (hb.mono (hS.2.2.2.2.2.2).size))⟩)
  have AW1 : Hid (∀ W' : World, W'.cell? ⟨w.heap.size, 0, none⟩ = some (.int .i64 k0) ∧ W'.cell? ⟨w.heap.size, 1, none⟩ = some (.bool b0) ∧ W'.cell? ⟨w.heap.size, 2, none⟩ = some (.int .i64 n0) ∧ W'.cell? ⟨w.heap.size, 3, none⟩ = some (.string s0) ∧ W'.cell? ⟨w.heap.size, 4, none⟩ = some (.slice lo0 ll0 lc0) ∧ W'.cell? ⟨w.heap.size, 5, none⟩ = some (.slice ko0 kl0 kc0) ∧ Below w1.heap.size w1 W' → Calls Tryz.prog 14 #[] W' fun e w' => e = .returned (.bool true) ∧ w'.cell? ⟨w.heap.size, 0, none⟩ = some (.int .i64 k0) ∧ w'.cell? ⟨w.heap.size, 1, none⟩ = some (.bool b0) ∧ w'.cell? ⟨w.heap.size, 2, none⟩ = some (.int .i64 n0) ∧ w'.cell? ⟨w.heap.size, 3, none⟩ = some (.string s0) ∧ w'.cell? ⟨w.heap.size, 4, none⟩ = some (.slice lo0 ll0 lc0) ∧ w'.cell? ⟨w.heap.size, 5, none⟩ = some (.slice ko0 kl0 kc0) ∧ Below w1.heap.size w1 w') := fun W' hS => (AW W' (HB.out.trans ((hS.2.2.2.2.2.2).mono HB.out.size))).out.mono (by
    rintro e w' ⟨rfl, hb⟩
    exact ⟨rfl, HF.out w' ((hS.2.2.2.2.2.2).trans (hb.mono (hS.2.2.2.2.2.2).size))⟩)
  clear VA RV AW
  clear hk0 hbx1 hw1 hz1
  go_enter Tryz.func3, Tryz.ntmps3
  go_upto_region 1 with fail
  rw [HW1.out]
  go_region_held3 (fun W' : World => W'.cell? ⟨w.heap.size, 0, none⟩ = some (.int .i64 k0) ∧ W'.cell? ⟨w.heap.size, 1, none⟩ = some (.bool b0) ∧ W'.cell? ⟨w.heap.size, 2, none⟩ = some (.int .i64 n0) ∧ W'.cell? ⟨w.heap.size, 3, none⟩ = some (.string s0) ∧ W'.cell? ⟨w.heap.size, 4, none⟩ = some (.slice lo0 ll0 lc0) ∧ W'.cell? ⟨w.heap.size, 5, none⟩ = some (.slice ko0 kl0 kc0) ∧ Below w1.heap.size w1 W') (first | exact HS0.out | assumption | go_keep)
    (first
      | (go_at_call 12; refine (VA1.out _ (by assumption)).mono ?_; rintro e wA0 ⟨rfl, hSA0⟩)
      | (go_at_call 13; refine (RV1.out _ (by assumption)).mono ?_; rintro e wA1 ⟨rfl, hSA1⟩)
      | (go_at_call 14; refine (AW1.out _ (by assumption)).mono ?_; rintro e wA2 ⟨rfl, hSA2⟩))
  go_wp2_with fail
  go_ret
  exact ⟨rfl, HB.out.trans (hSA2.2.2.2.2.2.2.mono HB.out.size)⟩
end Go.Proofs.YtbndgmbjfgmdnaaGreatDoor
