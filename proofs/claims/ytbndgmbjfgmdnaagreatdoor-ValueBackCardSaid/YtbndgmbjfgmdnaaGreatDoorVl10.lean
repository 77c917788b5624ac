/- The walk over the law ValueBack. -/
import Derived.Test.YtbndgmbjfgmdnaaGreatDoorVl8
import Derived.Test.YtbndgmbjfgmdnaaGreatDoorVq2b
import Derived.Test.YtbndgmbjfgmdnaaGreatDoorVl6m
namespace Go.Proofs.YtbndgmbjfgmdnaaGreatDoor
open Go.RowKit Go.Deep

theorem vars_sz {t : VT} (h : t.wf) : ∀ x ∈ varsL t, x.1.size ≤ 9223372036854775807 := by
  intro x hx
  unfold varsL at hx
  split at hx
  · exact (VT.wf_parts h).2.2.2.2.2.1 x.1 (List.of_mem_zip (show (x.1, x.2) ∈ _ from hx)).1
  · cases hx
theorem back_get {t : VT} (h : varsE t = 0) {i : Nat} (hi : i < (varsL t).length) : getF t (varsL t)[i].1 = some (varsL t)[i].2 := by
  have hv : validF t = 0 := by
    unfold varsE at h
    by_cases h1 : validF t = 0
    · exact h1
    · rw [if_pos h1] at h; exact absurd h h1
  have hk : t.kind = 5 := by
    unfold varsE at h
    rw [if_neg (fun k => k hv)] at h
    by_cases h1 : t.kind = 5
    · exact h1
    · rw [if_pos h1] at h; cases h
  have hnd := ((mapE_iff _).1 (map_back h).1).2.2
  obtain ⟨hn, _⟩ := check_zero hv
  obtain ⟨_, _, _, _, _, _, _, _, _, hy⟩ := node_zero hn
  have hlen := keyed_len (hy hk)
  have hvl : varsL t = t.keys.zip t.list := by unfold varsL; rw [if_pos h]
  have hz := zip_fst hlen
  have hks : t.keys.Nodup := by
    rw [hvl] at hnd
    have h2 : ((t.keys.zip t.list).map (·.1)).Pairwise (· ≠ ·) := by
      have h3 : (((t.keys.zip t.list).map (·.1)).map fun b : ByteArray => b.data.toList).Pairwise (· ≠ ·) := by rw [List.map_map]; exact hnd
      exact List.Pairwise.of_map _ (fun a b hab e => hab (by rw [e])) h3
    rw [hz.1] at h2
    exact h2
  have hi2 : i < (t.keys.zip t.list).length := by rw [← hvl]; exact hi
  have e0 : (varsL t)[i] = (t.keys.zip t.list)[i] := by simp only [hvl]
  rw [List.length_zip] at hi2
  rw [e0, List.getElem_zip]
  unfold getF
  rw [if_pos hk]
  show (keyPl t.keys[i] t.keys).bind _ = _
  rw [keyPl_nodup (by omega) hks, Option.bind_some, List.getElem?_eq_getElem (by omega)]
theorem back_open {t : VT} {i : Nat} (hi : i < (varsL t).length) (h : varsE t = 0) {W w' : World} {e : Ending} (hx : GetPostB t (varsL t)[i].1 W e w') : ∃ a1 c1 a2 c2, e = .returned (.tuple #[.agg #[.int .i64 (varsL t)[i].2.kind, .bool (varsL t)[i].2.bool, .int .i64 (varsL t)[i].2.int, .string (varsL t)[i].2.str, .slice a1 (varsL t)[i].2.list.length c1, .slice a2 (varsL t)[i].2.keys.length c2], .bool true]) ∧
    VAtB (fun q => W.heap.size ≤ q) w' (.agg #[.int .i64 (varsL t)[i].2.kind, .bool (varsL t)[i].2.bool, .int .i64 (varsL t)[i].2.int, .string (varsL t)[i].2.str, .slice a1 (varsL t)[i].2.list.length c1, .slice a2 (varsL t)[i].2.keys.length c2]) (varsL t)[i].2 ∧ Below W.heap.size W w' := by
  obtain ⟨v, rfl, hv, hb⟩ := hx
  rw [back_get h hi] at hv ⊢
  have hv : VAtB (fun q => W.heap.size ≤ q) w' v (varsL t)[i].2 := hv
  obtain ⟨a1, c1, a2, c2, rfl⟩ := hv.at_.form
  exact ⟨a1, c1, a2, c2, rfl, hv, hb⟩
theorem back_map {t : VT} (h : varsE t = 0) {W w' : World} {e : Ending} (hx : MapPost (varsL t) W e w') : ∃ a1 c1 a2 c2, e = .returned (.tuple #[.agg #[.int .i64 t.kind, .bool t.bool, .int .i64 t.int, .string t.str, .slice a1 t.list.length c1, .slice a2 t.keys.length c2], .int .i64 0]) ∧
    VAt w' (.agg #[.int .i64 t.kind, .bool t.bool, .int .i64 t.int, .string t.str, .slice a1 t.list.length c1, .slice a2 t.keys.length c2]) t ∧ Below W.heap.size W w' := by
  obtain ⟨v, rfl, hv, hb⟩ := hx
  rw [(map_back h).2] at hv
  rw [(map_back h).1]
  obtain ⟨a1, c1, a2, c2, rfl⟩ := hv.form
  exact ⟨a1, c1, a2, c2, rfl, hv, hb⟩
def BkRel (w5 : World) (n : Nat) (f : Nat) (t7 : Value) (wr : World) : Prop := ∃ i : Nat, t7 = .int .i64 (i : Nat) ∧ i ≤ n ∧ f = n - i ∧ Below w5.heap.size w5 wr
set_option maxRecDepth 100000 in
set_option maxHeartbeats 6400000 in
theorem back_law (v0 : Value) (t0 : VT) (w : World) (hp : Pow w) (h0 : VAt w v0 t0) (wf0 : t0.wf) (fit0 : t0.fit) : Calls Tryz.prog 10 #[v0] w (LawPost w) := by
  have VV := fun W (hW : Below w.heap.size w W) => Lib.hid ((vvars_any t0 wf0 v0 W (h0.below hW)).mono fun e w' h => vs_open h)
  have AW := fun W (hW : Below w.heap.size w W) => Lib.hid (awake_any W (hp.below hW))
  have SB := fun (u : Value) (W : World) (hW : Below w.heap.size w W) (h : VAt W u t0) => Lib.hid (same_any t0 t0 wf0 wf0 v0 u W (h0.below hW) h)
  rw [(sameV_iff t0 t0).2 rfl] at SB
  have GG := fun (i : Nat) (hi : i < (varsL t0).length) (h : varsE t0 = 0) W (hW : Below w.heap.size w W) => Lib.hid ((vgetb_any t0 (varsL t0)[i].1 wf0 fit0 v0 W (h0.below hW)).mono fun e w' hx => back_open hi h hx)
  have hvw := vars_wf wf0
  have hvl := vars_len wf0
  have hvs := vars_sz wf0
  have hmb := fun h => map_back (t := t0) h
  have hvn : varsE t0 ≠ 0 → (varsL t0).length = 0 := fun h => by unfold varsL; rw [if_neg h]; rfl
  have MM := fun (h : varsE t0 = 0) (u : Value) (B : Nat → Prop) (W : World) (hr : EVar.Row B W (varsL t0) u) => Lib.hid ((vmap_any (varsL t0) u B hvl hvw hvs W hr).mono fun e w' hx => back_map h hx)
  obtain ⟨lo0, lc0, ko0, kc0, rfl⟩ := h0.form
  generalize t0.kind = k0 at *
  generalize t0.bool = b0 at *
  generalize t0.int = n0 at *
  generalize t0.str = s0 at *
  generalize t0.list.length = ll0 at *
  generalize t0.keys.length = kl0 at *
  generalize varsE t0 = ve at *
  generalize varsL t0 = VL at *
  clear h0
  obtain ⟨w1, hw1⟩ : ∃ w1, w.alloc (.cells #[.int .i64 k0, .bool b0, .int .i64 n0, .string s0, .slice lo0 ll0 lc0, .slice ko0 kl0 kc0] 25 (0, 0)) = w1 := ⟨_, rfl⟩
  have hz1 : w1.heap.size = w.heap.size + 1 := by rw [← hw1]; simp
  have hbx1 : Below w.heap.size w w1 := by rw [← hw1]; exact (Below.refl _ w).alloc (Nat.le_refl _) _
  have hk0 : w1.heap[w.heap.size]? = some (.cells #[.int .i64 k0, .bool b0, .int .i64 n0, .string s0, .slice lo0 ll0 lc0, .slice ko0 kl0 kc0] 25 (0, 0)) := by rw [← hw1]; exact hp_new (by omega)
  have HK0 := Lib.hid hk0
  have HB : Hid (Below w.heap.size w w1) := hbx1
  have HLT : Hid (w.heap.size + 1 ≤ w1.heap.size) := by unfold Hid; omega
  have HF : Hid (∀ W' : World, Below w1.heap.size w1 W' → W'.cell? ⟨w.heap.size, 0, none⟩ = some (.int .i64 k0) ∧ W'.cell? ⟨w.heap.size, 1, none⟩ = some (.bool b0) ∧ W'.cell? ⟨w.heap.size, 2, none⟩ = some (.int .i64 n0) ∧ W'.cell? ⟨w.heap.size, 3, none⟩ = some (.string s0) ∧ W'.cell? ⟨w.heap.size, 4, none⟩ = some (.slice lo0 ll0 lc0) ∧ W'.cell? ⟨w.heap.size, 5, none⟩ = some (.slice ko0 kl0 kc0) ∧ Below w1.heap.size w1 W') := fun W' hb => by
    have q0 := (hb.block (w.heap.size) (by have := HLT.out; omega)).trans HK0.out
    exact ⟨cell_of_blk q0 0, cell_of_blk q0 1, cell_of_blk q0 2, cell_of_blk q0 3, cell_of_blk q0 4, cell_of_blk q0 5, hb⟩
  have HS0 := Lib.hid (HF.out _ (Below.refl _ w1).drew)
  have HW1 := Lib.hid hw1
  clear hp hmb wf0 fit0
  clear hk0 hbx1 hw1 hz1
  go_enter Tryz.func10, Tryz.ntmps10
  go_upto_region 1 with fail
  rw [HW1.out]
  clear HW1
  have X1 := Lib.hid (Below.refl w1.heap.size w1)
  obtain ⟨c00, c01, c02, c03, c04, c05, _⟩ := HF.out _ X1.out
  have CA := VV w1 (HB.out.trans (X1.out.mono HB.out.size))
  as_aux_lemma =>
  go_wp2_with fail
  refine CA.out.mono ?_
  rintro e w2 ⟨ao, cap, rfl, hr1, hb⟩
  have X2 := Lib.hid hb
  have R1 := Lib.hid hr1
  clear hb hr1 CA VV c00 c01 c02 c03 c04 c05
  by_cases hv : ve = 0
  · have t1 : ((ve : Int) != 0) = false := by rw [hv]; rfl
    have t1b : ((ve : Int) == 0) = true := by rw [hv]; rfl
    have CM := MM hv _ _ w2 R1.out
    have GGV := fun i hi W hW => GG i hi hv W hW
    clear MM GG hvn hv
    as_aux_lemma =>
    go_wp2_with fail
    refine CM.out.mono ?_
    rintro e w3 ⟨a1, c1, a2, c2, rfl, hv3, hb⟩
    obtain ⟨w4, hw4⟩ : ∃ w4, w3.alloc (.cells #[.int .i64 k0, .bool b0, .int .i64 n0, .string s0, .slice a1 ll0 c1, .slice a2 kl0 c2] 25 (0, 0)) = w4 := ⟨_, rfl⟩
    have hk4 : w4.heap[w3.heap.size]? = some (.cells #[.int .i64 k0, .bool b0, .int .i64 n0, .string s0, .slice a1 ll0 c1, .slice a2 kl0 c2] 25 (0, 0)) := by rw [← hw4]; exact hp_new rfl
    have hb4 : Below w3.heap.size w3 w4 := by rw [← hw4]; exact (Below.refl _ w3).alloc (Nat.le_refl _) _
    have HLT4 : Hid (w3.heap.size < w4.heap.size) := (Array.getElem?_eq_some_iff.1 hk4).1
    have HK4 := Lib.hid hk4
    have HW4 := Lib.hid hw4
    clear hw4 hk4
    have HB24 := Lib.hid (hb.trans (hb4.mono hb.size))
    have X4 := Lib.hid (X2.out.trans (HB24.out.mono X2.out.size))
    have R4 := Lib.hid (R1.out.below HB24.out)
    have CS := SB _ w4 (HB.out.trans (X4.out.mono HB.out.size)) (hv3.below hb4)
    clear hb hb4 hv3 CM SB R1 HB24
    go_upto_region 5 with fail
    rw [HW4.out]
    clear HW4
    obtain ⟨c00, c01, c02, c03, c04, c05, _⟩ := HF.out _ X4.out
    have y0 := cell_of_blk HK4.out 0
    have y1 := cell_of_blk HK4.out 1
    have y2 := cell_of_blk HK4.out 2
    have y3 := cell_of_blk HK4.out 3
    have y4 := cell_of_blk HK4.out 4
    have y5 := cell_of_blk HK4.out 5
    as_aux_lemma =>
    go_wp2_with fail
    refine CS.out.mono ?_
    rintro e w5 ⟨rfl, hb⟩
    have X5 := Lib.hid (X4.out.trans (hb.mono X4.out.size))
    have R5 := Lib.hid (R4.out.below hb)
    clear hb CS R4 HK4 HLT4 y0 y1 y2 y3 y4 y5 c00 c01 c02 c03 c04 c05
    go_wp2_with fail
    go_loopg [7] VL.length (BkRel w5 VL.length)
    case atStart => exact ⟨0, rfl, Nat.zero_le _, rfl, Below.refl _ _⟩
    case round =>
      obtain ⟨i, rfl, hi, rfl, hb⟩ := hrel
      have HBR := Lib.hid hb
      clear hb
      by_cases hlt : i < VL.length
      · have hii : (i : Int) < (VL.length : Int) := by omega
        have X6 := Lib.hid (X5.out.trans (HBR.out.mono X5.out.size))
        obtain ⟨bs, os, ce, rfl, _, hbs, hce0, hvc⟩ := (R5.out.below HBR.out).at hlt
        obtain ⟨a3, c3, a4, c4, rfl, hva⟩ := evar_seven hvc
        have HE : Hid (∀ W' : World, Below wr.heap.size wr W' → W'.cell? ⟨bs, os + i * 7, none⟩ = some (.string VL[i].1) ∧ W'.cell? ⟨bs, os + i * 7 + 1, none⟩ = some (.int .i64 VL[i].2.kind) ∧ W'.cell? ⟨bs, os + i * 7 + 2, none⟩ = some (.bool VL[i].2.bool) ∧ W'.cell? ⟨bs, os + i * 7 + 3, none⟩ = some (.int .i64 VL[i].2.int) ∧ W'.cell? ⟨bs, os + i * 7 + 4, none⟩ = some (.string VL[i].2.str) ∧ W'.cell? ⟨bs, os + i * 7 + 5, none⟩ = some (.slice a3 VL[i].2.list.length c3) ∧ W'.cell? ⟨bs, os + i * 7 + 6, none⟩ = some (.slice a4 VL[i].2.keys.length c4)) := fun W' hb => by
          have e : ∀ (j : Nat) u, [Value.string VL[i].1, .int .i64 VL[i].2.kind, .bool VL[i].2.bool, .int .i64 VL[i].2.int, .string VL[i].2.str, .slice a3 VL[i].2.list.length c3, .slice a4 VL[i].2.keys.length c4][j]? = some u → W'.cell? ⟨bs, os + i * 7 + j, none⟩ = some u := fun j u hu => (hb.cell (p := ⟨bs, os + i * 7 + j, none⟩) hbs).trans (hce0 j u hu)
          exact ⟨e 0 _ rfl, e 1 _ rfl, e 2 _ rfl, e 3 _ rfl, e 4 _ rfl, e 5 _ rfl, e 6 _ rfl⟩
        have GI := fun W hW => GGV i hlt W hW
        have SW := fun (u : Value) (W : World) (hW : Below wr.heap.size wr W) (h : VAt W u VL[i].2) => Lib.hid (same_any VL[i].2 VL[i].2 (hvw _ (List.getElem_mem hlt)) (hvw _ (List.getElem_mem hlt)) u _ W h (hva.at_.below hW))
        rw [(sameV_iff VL[i].2 VL[i].2).2 rfl] at SW
        clear hce0 hvc hva GGV R5
        have HS10 : Hid (∀ W' : World, Below wr.heap.size wr W' → W'.cell? ⟨w.heap.size, 0, none⟩ = some (.int .i64 k0) ∧ W'.cell? ⟨w.heap.size, 1, none⟩ = some (.bool b0) ∧ W'.cell? ⟨w.heap.size, 2, none⟩ = some (.int .i64 n0) ∧ W'.cell? ⟨w.heap.size, 3, none⟩ = some (.string s0) ∧ W'.cell? ⟨w.heap.size, 4, none⟩ = some (.slice lo0 ll0 lc0) ∧ W'.cell? ⟨w.heap.size, 5, none⟩ = some (.slice ko0 kl0 kc0) ∧ W'.cell? ⟨bs, os + i * 7, none⟩ = some (.string VL[i].1) ∧ Below wr.heap.size wr W') := fun W' hb => by
          have hb1 : Below w1.heap.size w1 W' := X6.out.trans (hb.mono X6.out.size)
          obtain ⟨q0, q1, q2, q3, q4, q5, _⟩ := HF.out W' hb1
          exact ⟨q0, q1, q2, q3, q4, q5, (HE.out W' hb).1, hb⟩
        have GA : Hid (∀ W' : World, (W'.cell? ⟨w.heap.size, 0, none⟩ = some (.int .i64 k0) ∧ W'.cell? ⟨w.heap.size, 1, none⟩ = some (.bool b0) ∧ W'.cell? ⟨w.heap.size, 2, none⟩ = some (.int .i64 n0) ∧ W'.cell? ⟨w.heap.size, 3, none⟩ = some (.string s0) ∧ W'.cell? ⟨w.heap.size, 4, none⟩ = some (.slice lo0 ll0 lc0) ∧ W'.cell? ⟨w.heap.size, 5, none⟩ = some (.slice ko0 kl0 kc0) ∧ W'.cell? ⟨bs, os + i * 7, none⟩ = some (.string VL[i].1) ∧ Below wr.heap.size wr W') → Calls Tryz.prog 25 #[.agg #[.int .i64 k0, .bool b0, .int .i64 n0, .string s0, .slice lo0 ll0 lc0, .slice ko0 kl0 kc0], .string VL[i].1] W' fun e w' => ∃ (g1 : Option Addr) (d1 : Nat) (g2 : Option Addr) (d2 : Nat), e = .returned (.tuple #[.agg #[.int .i64 VL[i].2.kind, .bool VL[i].2.bool, .int .i64 VL[i].2.int, .string VL[i].2.str, .slice g1 VL[i].2.list.length d1, .slice g2 VL[i].2.keys.length d2], .bool true]) ∧ VAtB (fun q => W'.heap.size ≤ q) w' (.agg #[.int .i64 VL[i].2.kind, .bool VL[i].2.bool, .int .i64 VL[i].2.int, .string VL[i].2.str, .slice g1 VL[i].2.list.length d1, .slice g2 VL[i].2.keys.length d2]) VL[i].2 ∧ (w'.cell? ⟨w.heap.size, 0, none⟩ = some (.int .i64 k0) ∧ w'.cell? ⟨w.heap.size, 1, none⟩ = some (.bool b0) ∧ w'.cell? ⟨w.heap.size, 2, none⟩ = some (.int .i64 n0) ∧ w'.cell? ⟨w.heap.size, 3, none⟩ = some (.string s0) ∧ w'.cell? ⟨w.heap.size, 4, none⟩ = some (.slice lo0 ll0 lc0) ∧ w'.cell? ⟨w.heap.size, 5, none⟩ = some (.slice ko0 kl0 kc0) ∧ w'.cell? ⟨bs, os + i * 7, none⟩ = some (.string VL[i].1) ∧ Below wr.heap.size wr w') ∧ Below W'.heap.size W' w') := fun W' hS => (GI W' (HB.out.trans ((X6.out.trans (hS.2.2.2.2.2.2.2.mono X6.out.size)).mono HB.out.size))).out.mono (by
          rintro e w' ⟨g1, d1, g2, d2, rfl, hv, hb⟩
          exact ⟨g1, d1, g2, d2, rfl, hv, HS10.out w' (hS.2.2.2.2.2.2.2.trans (hb.mono hS.2.2.2.2.2.2.2.size)), hb⟩)
        have HS0 := Lib.hid (HS10.out _ (Below.refl _ wr).drew)
        clear GI
        generalize VL[i].1 = nm at *
        generalize VL[i].2 = x at *
        generalize x.kind = xk at *
        generalize x.bool = xb at *
        generalize x.int = xn at *
        generalize x.str = xs at *
        generalize x.list.length = xll at *
        generalize x.keys.length = xkl at *
        as_aux_lemma =>
        go_upto_region 10 with fail
        refine wp_region_Z (S := fun W' : World => W'.cell? ⟨w.heap.size, 0, none⟩ = some (.int .i64 k0) ∧ W'.cell? ⟨w.heap.size, 1, none⟩ = some (.bool b0) ∧ W'.cell? ⟨w.heap.size, 2, none⟩ = some (.int .i64 n0) ∧ W'.cell? ⟨w.heap.size, 3, none⟩ = some (.string s0) ∧ W'.cell? ⟨w.heap.size, 4, none⟩ = some (.slice lo0 ll0 lc0) ∧ W'.cell? ⟨w.heap.size, 5, none⟩ = some (.slice ko0 kl0 kc0) ∧ W'.cell? ⟨bs, os + i * 7, none⟩ = some (.string nm) ∧ Below wr.heap.size wr W') 13 (by kernel_rfl) HS0.out (fun hHeld => ?_)
        refine wpAnyZ_takeL (i := 0) (v := ?_) rfl (by kernel_rfl) (by kernel_rfl) (by kernel_rfl) (by kernel_rfl) (fun _ _ _ h => h) (Or.inl ⟨by rfl, ?_⟩) (by assumption) ?_
        rotate_left
        · (intro w hSw; (try dsimp only at hSw); go_simp; try with_reducible rfl)
        try simp only [Act.put, List.setIfInBounds_toArray, List.set_cons_zero, List.set_cons_succ]
        refine wpAnyZ_takeL (i := 1) (v := ?_) rfl (by kernel_rfl) (by kernel_rfl) (by kernel_rfl) (by kernel_rfl) (fun _ _ _ h => h) (Or.inl ⟨by rfl, ?_⟩) (by assumption) ?_
        rotate_left
        · (intro w hSw; (try dsimp only at hSw); go_simp; try with_reducible rfl)
        try simp only [Act.put, List.setIfInBounds_toArray, List.set_cons_zero, List.set_cons_succ]
        refine wpAnyZ_takeL (i := 2) (v := ?_) rfl (by kernel_rfl) (by kernel_rfl) (by kernel_rfl) (by kernel_rfl) (fun _ _ _ h => h) (Or.inl ⟨by rfl, ?_⟩) (by assumption) ?_
        rotate_left
        · (intro w hSw; (try dsimp only at hSw); go_simp; try with_reducible rfl)
        try simp only [Act.put, List.setIfInBounds_toArray, List.set_cons_zero, List.set_cons_succ]
        refine wpAnyZ_takeL (i := 3) (v := ?_) rfl (by kernel_rfl) (by kernel_rfl) (by kernel_rfl) (by kernel_rfl) (fun _ _ _ h => h) (Or.inl ⟨by rfl, ?_⟩) (by assumption) ?_
        rotate_left
        · (intro w hSw; (try dsimp only at hSw); go_simp; try with_reducible rfl)
        try simp only [Act.put, List.setIfInBounds_toArray, List.set_cons_zero, List.set_cons_succ]
        refine wpAnyZ_takeL (i := 4) (v := ?_) rfl (by kernel_rfl) (by kernel_rfl) (by kernel_rfl) (by kernel_rfl) (fun _ _ _ h => h) (Or.inl ⟨by rfl, ?_⟩) (by assumption) ?_
        rotate_left
        · (intro w hSw; (try dsimp only at hSw); go_simp; try with_reducible rfl)
        try simp only [Act.put, List.setIfInBounds_toArray, List.set_cons_zero, List.set_cons_succ]
        refine wpAnyZ_takeL (i := 5) (v := ?_) rfl (by kernel_rfl) (by kernel_rfl) (by kernel_rfl) (by kernel_rfl) (fun _ _ _ h => h) (Or.inl ⟨by rfl, ?_⟩) (by assumption) ?_
        rotate_left
        · (intro w hSw; (try dsimp only at hSw); go_simp; try with_reducible rfl)
        try simp only [Act.put, List.setIfInBounds_toArray, List.set_cons_zero, List.set_cons_succ]
        obtain ⟨wd, hwd⟩ : ∃ wd, wr.drew = wd := ⟨_, rfl⟩
        have HSD := Lib.hid (hHeld)
        have HBD : Hid (Below wr.heap.size wr wd) := by rw [← hwd]; exact (Below.refl _ wr).drew
        rw [hwd] at HSD ⊢
        clear hwd hHeld
        refine wpAnyZ_two (i := 6) (j := 10) (by kernel_rfl) rfl rfl (fun K hK => ?_) (fun K hK => ?_)
        · go_simp
          go_at_call 25
          refine (GA.out _ HSD.out).mono ?_
          rintro e wB ⟨g1, d1, g2, d2, rfl, hv, hSB, hb6⟩
          refine hK.out _ _ (fun _ => hSB) (fun hHeld => ?_)
          replace hHeld := hHeld (by decide)
          clear hK K
          try simp only [Act.put, List.setIfInBounds_toArray, List.set_cons_zero, List.set_cons_succ]
          refine wpAnyZ_takeL (i := 7) (v := ?_) rfl (by kernel_rfl) (by kernel_rfl) (by kernel_rfl) (by kernel_rfl) (fun _ _ _ h => h) (Or.inl ⟨by rfl, ?_⟩) (by assumption) ?_
          rotate_left
          · (intro w hSw; (try dsimp only at hSw); go_simp; try with_reducible rfl)
          try simp only [Act.put, List.setIfInBounds_toArray, List.set_cons_zero, List.set_cons_succ]
          refine wpAnyZ_takeL (i := 8) (v := ?_) rfl (by kernel_rfl) (by kernel_rfl) (by kernel_rfl) (by kernel_rfl) (fun _ _ _ h => h) (Or.inl ⟨by rfl, ?_⟩) (by assumption) ?_
          rotate_left
          · (intro w hSw; (try dsimp only at hSw); go_simp; try with_reducible rfl)
          try simp only [Act.put, List.setIfInBounds_toArray, List.set_cons_zero, List.set_cons_succ]
          refine wpAnyZ_takeL (i := 9) (v := ?_) rfl (by kernel_rfl) (by kernel_rfl) (by kernel_rfl) (by kernel_rfl) (fun _ _ _ h => h) (Or.inl ⟨by rfl, ?_⟩) (by assumption) ?_
          rotate_left
          · (intro w hSw; (try dsimp only at hSw); go_simp; try with_reducible rfl)
          try simp only [Act.put, List.setIfInBounds_toArray, List.set_cons_zero, List.set_cons_succ]
          refine wpAnyZ_oneL (i := 10) (by kernel_rfl) rfl (fun K hK => ?_)
          go_simp
          refine hK.out _ _ (fun _ => HS10.out _ (hSB.2.2.2.2.2.2.2.alloc hSB.2.2.2.2.2.2.2.size _)) (fun hHeld => ?_)
          replace hHeld := hHeld (by decide)
          clear hK K
          try simp only [Act.put, List.setIfInBounds_toArray, List.set_cons_zero, List.set_cons_succ]
          refine wpAnyZ_oneL (i := 11) (by kernel_rfl) rfl (fun K hK => ?_)
          rw [if_pos (by rfl)]
          refine wp_store_rowV 25 _ _ rfl wB.heap.size rfl 25 _ (hp_new rfl) (.agg #[.int .i64 xk, .bool xb, .int .i64 xn, .string xs, .slice g1 xll d1, .slice g2 xkl d2]) rfl (by kernel_rfl) rfl rfl ?_
          intro w7 hw7
          have HB7 : Hid (Below wr.heap.size wr w7) := (hSB.2.2.2.2.2.2.2.alloc hSB.2.2.2.2.2.2.2.size _).trans (hw7.below hSB.2.2.2.2.2.2.2.size)
          have HV7 := Lib.hid (hv.at_.below (((Below.refl _ wB).alloc (Nat.le_refl _) _).trans (hw7.below (Nat.le_refl _))))
          have hk7 := hw7.at_
          clear hw7 hSB hb6 hv
          refine hK.out _ _ (fun _ => HS10.out _ HB7.out) (fun hHeld => ?_)
          replace hHeld := hHeld (by decide)
          clear hK K
          refine wpAnyZ_oneL (i := 12) (by kernel_rfl) rfl (fun K hK => ?_)
          go_simp
          refine hK.out _ _ (fun _ => HS10.out _ HB7.out) (fun hHeld => ?_)
          replace hHeld := hHeld (by decide)
          clear hK K
          try simp only [Act.put, List.setIfInBounds_toArray, List.set_cons_zero, List.set_cons_succ]
          refine wpAnyZ_done (by kernel_rfl) ?_ _
          clear hHeld HSD GA HS0 HS10
          obtain ⟨_, e1, e2, e3, e4, e5, e6⟩ := HE.out w7 HB7.out
          have HK7 := Lib.hid hk7
          have HL7 : Hid (wB.heap.size < w7.heap.size) := (Array.getElem?_eq_some_iff.1 hk7).1
          clear hk7
          generalize wB.heap.size = nb at *
          have HS11 : Hid (∀ W' : World, Below w7.heap.size w7 W' → W'.cell? ⟨bs, os + i * 7 + 1, none⟩ = some (.int .i64 xk) ∧ W'.cell? ⟨bs, os + i * 7 + 2, none⟩ = some (.bool xb) ∧ W'.cell? ⟨bs, os + i * 7 + 3, none⟩ = some (.int .i64 xn) ∧ W'.cell? ⟨bs, os + i * 7 + 4, none⟩ = some (.string xs) ∧ W'.cell? ⟨bs, os + i * 7 + 5, none⟩ = some (.slice a3 xll c3) ∧ W'.cell? ⟨bs, os + i * 7 + 6, none⟩ = some (.slice a4 xkl c4) ∧ W'.cell? ⟨nb, 0, none⟩ = some (.int .i64 xk) ∧ W'.cell? ⟨nb, 1, none⟩ = some (.bool xb) ∧ W'.cell? ⟨nb, 2, none⟩ = some (.int .i64 xn) ∧ W'.cell? ⟨nb, 3, none⟩ = some (.string xs) ∧ W'.cell? ⟨nb, 4, none⟩ = some (.slice g1 xll d1) ∧ W'.cell? ⟨nb, 5, none⟩ = some (.slice g2 xkl d2) ∧ Below w7.heap.size w7 W') := fun W' hb => by
            obtain ⟨_, e1, e2, e3, e4, e5, e6⟩ := HE.out W' (HB7.out.trans (hb.mono HB7.out.size))
            have q := (hb.block _ HL7.out).trans HK7.out
            exact ⟨e1, e2, e3, e4, e5, e6, cell_of_blk q 0, cell_of_blk q 1, cell_of_blk q 2, cell_of_blk q 3, cell_of_blk q 4, cell_of_blk q 5, hb⟩
          have SA : Hid (∀ W' : World, W'.cell? ⟨bs, os + i * 7 + 1, none⟩ = some (.int .i64 xk) ∧ W'.cell? ⟨bs, os + i * 7 + 2, none⟩ = some (.bool xb) ∧ W'.cell? ⟨bs, os + i * 7 + 3, none⟩ = some (.int .i64 xn) ∧ W'.cell? ⟨bs, os + i * 7 + 4, none⟩ = some (.string xs) ∧ W'.cell? ⟨bs, os + i * 7 + 5, none⟩ = some (.slice a3 xll c3) ∧ W'.cell? ⟨bs, os + i * 7 + 6, none⟩ = some (.slice a4 xkl c4) ∧ W'.cell? ⟨nb, 0, none⟩ = some (.int .i64 xk) ∧ W'.cell? ⟨nb, 1, none⟩ = some (.bool xb) ∧ W'.cell? ⟨nb, 2, none⟩ = some (.int .i64 xn) ∧ W'.cell? ⟨nb, 3, none⟩ = some (.string xs) ∧ W'.cell? ⟨nb, 4, none⟩ = some (.slice g1 xll d1) ∧ W'.cell? ⟨nb, 5, none⟩ = some (.slice g2 xkl d2) ∧ Below w7.heap.size w7 W' → Calls Tryz.prog 20 #[.agg #[.int .i64 xk, .bool xb, .int .i64 xn, .string xs, .slice g1 xll d1, .slice g2 xkl d2], .agg #[.int .i64 xk, .bool xb, .int .i64 xn, .string xs, .slice a3 xll c3, .slice a4 xkl c4]] W' fun e w' => e = .returned (.bool true) ∧ w'.cell? ⟨bs, os + i * 7 + 1, none⟩ = some (.int .i64 xk) ∧ w'.cell? ⟨bs, os + i * 7 + 2, none⟩ = some (.bool xb) ∧ w'.cell? ⟨bs, os + i * 7 + 3, none⟩ = some (.int .i64 xn) ∧ w'.cell? ⟨bs, os + i * 7 + 4, none⟩ = some (.string xs) ∧ w'.cell? ⟨bs, os + i * 7 + 5, none⟩ = some (.slice a3 xll c3) ∧ w'.cell? ⟨bs, os + i * 7 + 6, none⟩ = some (.slice a4 xkl c4) ∧ w'.cell? ⟨nb, 0, none⟩ = some (.int .i64 xk) ∧ w'.cell? ⟨nb, 1, none⟩ = some (.bool xb) ∧ w'.cell? ⟨nb, 2, none⟩ = some (.int .i64 xn) ∧ w'.cell? ⟨nb, 3, none⟩ = some (.string xs) ∧ w'.cell? ⟨nb, 4, none⟩ = some (.slice g1 xll d1) ∧ w'.cell? ⟨nb, 5, none⟩ = some (.slice g2 xkl d2) ∧ Below w7.heap.size w7 w') := fun W' hS => (SW _ W' (HB7.out.trans (hS.2.2.2.2.2.2.2.2.2.2.2.2.mono HB7.out.size)) (HV7.out.below hS.2.2.2.2.2.2.2.2.2.2.2.2)).out.mono (by
            rintro e w' ⟨rfl, hb⟩
            exact ⟨rfl, HS11.out w' (hS.2.2.2.2.2.2.2.2.2.2.2.2.trans (hb.mono hS.2.2.2.2.2.2.2.2.2.2.2.2.size))⟩)
          have HS0 := Lib.hid (HS11.out _ (Below.refl _ w7).drew)
          clear e1 e2 e3 e4 e5 e6 SW
          go_upto_region 11 with fail
          go_region_held3 (fun W' : World => W'.cell? ⟨bs, os + i * 7 + 1, none⟩ = some (.int .i64 xk) ∧ W'.cell? ⟨bs, os + i * 7 + 2, none⟩ = some (.bool xb) ∧ W'.cell? ⟨bs, os + i * 7 + 3, none⟩ = some (.int .i64 xn) ∧ W'.cell? ⟨bs, os + i * 7 + 4, none⟩ = some (.string xs) ∧ W'.cell? ⟨bs, os + i * 7 + 5, none⟩ = some (.slice a3 xll c3) ∧ W'.cell? ⟨bs, os + i * 7 + 6, none⟩ = some (.slice a4 xkl c4) ∧ W'.cell? ⟨nb, 0, none⟩ = some (.int .i64 xk) ∧ W'.cell? ⟨nb, 1, none⟩ = some (.bool xb) ∧ W'.cell? ⟨nb, 2, none⟩ = some (.int .i64 xn) ∧ W'.cell? ⟨nb, 3, none⟩ = some (.string xs) ∧ W'.cell? ⟨nb, 4, none⟩ = some (.slice g1 xll d1) ∧ W'.cell? ⟨nb, 5, none⟩ = some (.slice g2 xkl d2) ∧ Below w7.heap.size w7 W') (first | exact HS0.out | assumption | go_keep)
            (first
              | (go_at_call 20; refine (SA.out _ (by assumption)).mono ?_; rintro e wA ⟨rfl, hSA⟩))
          have HBE : Hid (Below w5.heap.size w5 wA) := HBR.out.trans ((HB7.out.trans (hSA.2.2.2.2.2.2.2.2.2.2.2.2.mono HB7.out.size)).mono HBR.out.size)
          clear hSA HS0
          go_wp2_with fail
          go_roundg (VL.length - (i + 1))
          case measure => omega
          case rel => exact ⟨i + 1, by go_num, by omega, rfl, HBE.out⟩
        · go_simp
          refine hK.out _ _ (fun _ => HS10.out _ (HBD.out.alloc HBD.out.size _)) (fun hHeld => ?_)
          replace hHeld := hHeld (by decide)
          clear hK K
          try simp only [Act.put, List.setIfInBounds_toArray, List.set_cons_zero, List.set_cons_succ]
          refine wpAnyZ_oneL (i := 6) (by kernel_rfl) rfl (fun K hK => ?_)
          go_simp
          go_at_call 25
          refine (GA.out _ (HS10.out _ (HBD.out.alloc HBD.out.size _))).mono ?_
          rintro e wB ⟨g1, d1, g2, d2, rfl, hv, hSB, hb6⟩
          refine hK.out _ _ (fun _ => hSB) (fun hHeld => ?_)
          replace hHeld := hHeld (by decide)
          clear hK K
          try simp only [Act.put, List.setIfInBounds_toArray, List.set_cons_zero, List.set_cons_succ]
          refine wpAnyZ_takeL (i := 7) (v := ?_) rfl (by kernel_rfl) (by kernel_rfl) (by kernel_rfl) (by kernel_rfl) (fun _ _ _ h => h) (Or.inl ⟨by rfl, ?_⟩) (by assumption) ?_
          rotate_left
          · (intro w hSw; (try dsimp only at hSw); go_simp; try with_reducible rfl)
          try simp only [Act.put, List.setIfInBounds_toArray, List.set_cons_zero, List.set_cons_succ]
          refine wpAnyZ_takeL (i := 8) (v := ?_) rfl (by kernel_rfl) (by kernel_rfl) (by kernel_rfl) (by kernel_rfl) (fun _ _ _ h => h) (Or.inl ⟨by rfl, ?_⟩) (by assumption) ?_
          rotate_left
          · (intro w hSw; (try dsimp only at hSw); go_simp; try with_reducible rfl)
          try simp only [Act.put, List.setIfInBounds_toArray, List.set_cons_zero, List.set_cons_succ]
          refine wpAnyZ_takeL (i := 9) (v := ?_) rfl (by kernel_rfl) (by kernel_rfl) (by kernel_rfl) (by kernel_rfl) (fun _ _ _ h => h) (Or.inl ⟨by rfl, ?_⟩) (by assumption) ?_
          rotate_left
          · (intro w hSw; (try dsimp only at hSw); go_simp; try with_reducible rfl)
          try simp only [Act.put, List.setIfInBounds_toArray, List.set_cons_zero, List.set_cons_succ]
          refine wpAnyZ_oneL (i := 11) (by kernel_rfl) rfl (fun K hK => ?_)
          rw [if_pos (by rfl)]
          refine wp_store_rowV 25 _ _ rfl wd.heap.size rfl 25 _ ((hb6.block _ (by simp)).trans (hp_new rfl)) (.agg #[.int .i64 xk, .bool xb, .int .i64 xn, .string xs, .slice g1 xll d1, .slice g2 xkl d2]) rfl (by kernel_rfl) rfl rfl ?_
          intro w7 hw7
          have HB7 : Hid (Below wr.heap.size wr w7) := hSB.2.2.2.2.2.2.2.trans (hw7.below HBD.out.size)
          have HV7 : Hid (VAt w7 (.agg #[.int .i64 xk, .bool xb, .int .i64 xn, .string xs, .slice g1 xll d1, .slice g2 xkl d2]) x) := by
            obtain ⟨cs, h1, h2⟩ := hv
            exact ⟨cs, h1, VCellB.cell _ _ (VCellB.keep (Nat.le_of_eq hw7.size.symm) (fun c hc _ => hw7.block c (by simp at hc; omega)) _ _ h2)⟩
          have hk7 := hw7.at_
          clear hw7 hSB hb6 hv
          refine hK.out _ _ (fun _ => HS10.out _ HB7.out) (fun hHeld => ?_)
          replace hHeld := hHeld (by decide)
          clear hK K
          refine wpAnyZ_oneL (i := 12) (by kernel_rfl) rfl (fun K hK => ?_)
          go_simp
          refine hK.out _ _ (fun _ => HS10.out _ HB7.out) (fun hHeld => ?_)
          replace hHeld := hHeld (by decide)
          clear hK K
          try simp only [Act.put, List.setIfInBounds_toArray, List.set_cons_zero, List.set_cons_succ]
          refine wpAnyZ_done (by kernel_rfl) ?_ _
          clear hHeld HSD GA HS0 HS10
          obtain ⟨_, e1, e2, e3, e4, e5, e6⟩ := HE.out w7 HB7.out
          have HK7 := Lib.hid hk7
          have HL7 : Hid (wd.heap.size < w7.heap.size) := (Array.getElem?_eq_some_iff.1 hk7).1
          clear hk7
          generalize wd.heap.size = nb at *
          have HS11 : Hid (∀ W' : World, Below w7.heap.size w7 W' → W'.cell? ⟨bs, os + i * 7 + 1, none⟩ = some (.int .i64 xk) ∧ W'.cell? ⟨bs, os + i * 7 + 2, none⟩ = some (.bool xb) ∧ W'.cell? ⟨bs, os + i * 7 + 3, none⟩ = some (.int .i64 xn) ∧ W'.cell? ⟨bs, os + i * 7 + 4, none⟩ = some (.string xs) ∧ W'.cell? ⟨bs, os + i * 7 + 5, none⟩ = some (.slice a3 xll c3) ∧ W'.cell? ⟨bs, os + i * 7 + 6, none⟩ = some (.slice a4 xkl c4) ∧ W'.cell? ⟨nb, 0, none⟩ = some (.int .i64 xk) ∧ W'.cell? ⟨nb, 1, none⟩ = some (.bool xb) ∧ W'.cell? ⟨nb, 2, none⟩ = some (.int .i64 xn) ∧ W'.cell? ⟨nb, 3, none⟩ = some (.string xs) ∧ W'.cell? ⟨nb, 4, none⟩ = some (.slice g1 xll d1) ∧ W'.cell? ⟨nb, 5, none⟩ = some (.slice g2 xkl d2) ∧ Below w7.heap.size w7 W') := fun W' hb => by
            obtain ⟨_, e1, e2, e3, e4, e5, e6⟩ := HE.out W' (HB7.out.trans (hb.mono HB7.out.size))
            have q := (hb.block _ HL7.out).trans HK7.out
            exact ⟨e1, e2, e3, e4, e5, e6, cell_of_blk q 0, cell_of_blk q 1, cell_of_blk q 2, cell_of_blk q 3, cell_of_blk q 4, cell_of_blk q 5, hb⟩
          have SA : Hid (∀ W' : World, W'.cell? ⟨bs, os + i * 7 + 1, none⟩ = some (.int .i64 xk) ∧ W'.cell? ⟨bs, os + i * 7 + 2, none⟩ = some (.bool xb) ∧ W'.cell? ⟨bs, os + i * 7 + 3, none⟩ = some (.int .i64 xn) ∧ W'.cell? ⟨bs, os + i * 7 + 4, none⟩ = some (.string xs) ∧ W'.cell? ⟨bs, os + i * 7 + 5, none⟩ = some (.slice a3 xll c3) ∧ W'.cell? ⟨bs, os + i * 7 + 6, none⟩ = some (.slice a4 xkl c4) ∧ W'.cell? ⟨nb, 0, none⟩ = some (.int .i64 xk) ∧ W'.cell? ⟨nb, 1, none⟩ = some (.bool xb) ∧ W'.cell? ⟨nb, 2, none⟩ = some (.int .i64 xn) ∧ W'.cell? ⟨nb, 3, none⟩ = some (.string xs) ∧ W'.cell? ⟨nb, 4, none⟩ = some (.slice g1 xll d1) ∧ W'.cell? ⟨nb, 5, none⟩ = some (.slice g2 xkl d2) ∧ Below w7.heap.size w7 W' → Calls Tryz.prog 20 #[.agg #[.int .i64 xk, .bool xb, .int .i64 xn, .string xs, .slice g1 xll d1, .slice g2 xkl d2], .agg #[.int .i64 xk, .bool xb, .int .i64 xn, .string xs, .slice a3 xll c3, .slice a4 xkl c4]] W' fun e w' => e = .returned (.bool true) ∧ w'.cell? ⟨bs, os + i * 7 + 1, none⟩ = some (.int .i64 xk) ∧ w'.cell? ⟨bs, os + i * 7 + 2, none⟩ = some (.bool xb) ∧ w'.cell? ⟨bs, os + i * 7 + 3, none⟩ = some (.int .i64 xn) ∧ w'.cell? ⟨bs, os + i * 7 + 4, none⟩ = some (.string xs) ∧ w'.cell? ⟨bs, os + i * 7 + 5, none⟩ = some (.slice a3 xll c3) ∧ w'.cell? ⟨bs, os + i * 7 + 6, none⟩ = some (.slice a4 xkl c4) ∧ w'.cell? ⟨nb, 0, none⟩ = some (.int .i64 xk) ∧ w'.cell? ⟨nb, 1, none⟩ = some (.bool xb) ∧ w'.cell? ⟨nb, 2, none⟩ = some (.int .i64 xn) ∧ w'.cell? ⟨nb, 3, none⟩ = some (.string xs) ∧ w'.cell? ⟨nb, 4, none⟩ = some (.slice g1 xll d1) ∧ w'.cell? ⟨nb, 5, none⟩ = some (.slice g2 xkl d2) ∧ Below w7.heap.size w7 w') := fun W' hS => (SW _ W' (HB7.out.trans (hS.2.2.2.2.2.2.2.2.2.2.2.2.mono HB7.out.size)) (HV7.out.below hS.2.2.2.2.2.2.2.2.2.2.2.2)).out.mono (by
            rintro e w' ⟨rfl, hb⟩
            exact ⟨rfl, HS11.out w' (hS.2.2.2.2.2.2.2.2.2.2.2.2.trans (hb.mono hS.2.2.2.2.2.2.2.2.2.2.2.2.size))⟩)
          have HS0 := Lib.hid (HS11.out _ (Below.refl _ w7).drew)
          clear e1 e2 e3 e4 e5 e6 SW
          go_upto_region 11 with fail
          go_region_held3 (fun W' : World => W'.cell? ⟨bs, os + i * 7 + 1, none⟩ = some (.int .i64 xk) ∧ W'.cell? ⟨bs, os + i * 7 + 2, none⟩ = some (.bool xb) ∧ W'.cell? ⟨bs, os + i * 7 + 3, none⟩ = some (.int .i64 xn) ∧ W'.cell? ⟨bs, os + i * 7 + 4, none⟩ = some (.string xs) ∧ W'.cell? ⟨bs, os + i * 7 + 5, none⟩ = some (.slice a3 xll c3) ∧ W'.cell? ⟨bs, os + i * 7 + 6, none⟩ = some (.slice a4 xkl c4) ∧ W'.cell? ⟨nb, 0, none⟩ = some (.int .i64 xk) ∧ W'.cell? ⟨nb, 1, none⟩ = some (.bool xb) ∧ W'.cell? ⟨nb, 2, none⟩ = some (.int .i64 xn) ∧ W'.cell? ⟨nb, 3, none⟩ = some (.string xs) ∧ W'.cell? ⟨nb, 4, none⟩ = some (.slice g1 xll d1) ∧ W'.cell? ⟨nb, 5, none⟩ = some (.slice g2 xkl d2) ∧ Below w7.heap.size w7 W') (first | exact HS0.out | assumption | go_keep)
            (first
              | (go_at_call 20; refine (SA.out _ (by assumption)).mono ?_; rintro e wA ⟨rfl, hSA⟩))
          have HBE : Hid (Below w5.heap.size w5 wA) := HBR.out.trans ((HB7.out.trans (hSA.2.2.2.2.2.2.2.2.2.2.2.2.mono HB7.out.size)).mono HBR.out.size)
          clear hSA HS0
          go_wp2_with fail
          go_roundg (VL.length - (i + 1))
          case measure => omega
          case rel => exact ⟨i + 1, by go_num, by omega, rfl, HBE.out⟩
      · have hii : ¬ (i : Int) < (VL.length : Int) := by omega
        have X6 := Lib.hid (X5.out.trans (HBR.out.mono X5.out.size))
        have AW6 := AW wr (HB.out.trans (X6.out.mono HB.out.size))
        as_aux_lemma =>
        go_wp2_with fail
        refine AW6.out.mono ?_
        rintro e w7 ⟨rfl, hb⟩
        have X7 := Lib.hid (X6.out.trans (hb.mono X6.out.size))
        clear hb
        go_wp2_with fail
        go_ret
        exact ⟨rfl, HB.out.trans (X7.out.mono HB.out.size)⟩
  · have t1b : ((ve : Int) == 0) = false := by rw [beq_eq_false_iff_ne]; omega
    have t1 : ((ve : Int) != 0) = true := by simp [bne, t1b]
    have hlen := hvn hv
    have AW2 := AW w2 (HB.out.trans (X2.out.mono HB.out.size))
    rw [hlen]
    clear hv GG MM hvn hlen
    as_aux_lemma =>
    go_wp2_with fail
    refine AW2.out.mono ?_
    rintro e w3 ⟨rfl, hb⟩
    have X3 := Lib.hid (X2.out.trans (hb.mono X2.out.size))
    clear hb
    go_wp2_with fail
    go_ret
    exact ⟨rfl, HB.out.trans (X3.out.mono HB.out.size)⟩
end Go.Proofs.YtbndgmbjfgmdnaaGreatDoor
