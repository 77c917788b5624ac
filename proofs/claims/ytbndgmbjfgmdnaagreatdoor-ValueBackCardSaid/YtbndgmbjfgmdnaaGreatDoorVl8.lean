/- The walk over the law ValueEntries. -/
import Derived.Test.YtbndgmbjfgmdnaaGreatDoorVl3
import Derived.Test.YtbndgmbjfgmdnaaGreatDoorVl6m
import Derived.Test.YtbndgmbjfgmdnaaGreatDoorVr8m
import Derived.Test.YtbndgmbjfgmdnaaGreatDoorVr4m
namespace Go.Proofs.YtbndgmbjfgmdnaaGreatDoor
open Go.RowKit Go.Deep

theorem vs_open {t : VT} {W w' : World} {e : Ending} (h : VsPost t W e w') : ∃ ao cap, e = .returned (.tuple #[.slice ao (varsL t).length cap, .int .i64 ((varsE t : Nat) : Int)]) ∧ EVar.Row (fun _ => True) w' (varsL t) (.slice ao (varsL t).length cap) ∧ Below W.heap.size W w' := by
  obtain ⟨v, rfl, hv, hb⟩ := h
  obtain ⟨ao, cap, rfl⟩ := hv.form
  exact ⟨ao, cap, rfl, hv.mono fun _ _ => trivial, hb⟩
theorem rvs_open {t : VT} {W w' : World} {e : Ending} (h : RvsPost t W e w') : ∃ ao cap, e = .returned (.tuple #[.slice ao (varsL t).length cap, .int .i64 ((varsE t : Nat) : Int)]) ∧ EVar.Row (fun _ => True) w' (varsL t) (.slice ao (varsL t).length cap) ∧ Below W.heap.size W w' := by
  obtain ⟨v, rfl, hv, hb⟩ := h
  obtain ⟨ao, cap, rfl⟩ := hv.form
  exact ⟨ao, cap, rfl, hv, hb⟩
theorem get_open {t : VT} {key : ByteArray} {W w' : World} {e : Ending} (h : GetPost t key W e w') : ∃ a1 c1 a2 c2, e = .returned (.tuple #[.agg #[.int .i64 ((getF t key).getD VT.zero).kind, .bool ((getF t key).getD VT.zero).bool, .int .i64 ((getF t key).getD VT.zero).int, .string ((getF t key).getD VT.zero).str, .slice a1 ((getF t key).getD VT.zero).list.length c1, .slice a2 ((getF t key).getD VT.zero).keys.length c2], .bool (getF t key).isSome]) ∧
    VAt w' (.agg #[.int .i64 ((getF t key).getD VT.zero).kind, .bool ((getF t key).getD VT.zero).bool, .int .i64 ((getF t key).getD VT.zero).int, .string ((getF t key).getD VT.zero).str, .slice a1 ((getF t key).getD VT.zero).list.length c1, .slice a2 ((getF t key).getD VT.zero).keys.length c2]) ((getF t key).getD VT.zero) ∧ Below W.heap.size W w' := by
  obtain ⟨v, rfl, hv, hb⟩ := h
  obtain ⟨a1, c1, a2, c2, rfl⟩ := hv.form
  exact ⟨a1, c1, a2, c2, rfl, hv, hb⟩
theorem get_wf {t : VT} (key : ByteArray) (h : t.wf) : ((getF t key).getD VT.zero).wf := by
  have hz := wf_valid zero_valid
  unfold getF
  by_cases hk : t.kind = 5
  · rw [if_pos hk]
    cases keyPl key t.keys with
    | none => exact hz
    | some i =>
      rw [Option.bind_some]
      cases hi : t.list[i]? with
      | none => exact hz
      | some x => exact (VT.wf_parts h).2.2.2.2.2.2 x (List.mem_of_getElem? hi)
  · rw [if_neg hk]; exact hz
theorem vars_wf {t : VT} (h : t.wf) : ∀ x ∈ varsL t, x.2.wf := by
  intro x hx
  unfold varsL at hx
  split at hx
  · exact (VT.wf_parts h).2.2.2.2.2.2 x.2 (List.of_mem_zip (show (x.1, x.2) ∈ _ from hx)).2
  · cases hx
theorem vars_len {t : VT} (h : t.wf) : (varsL t).length ≤ 9223372036854775807 := by
  have h1 := (VT.wf_parts h).2.2.2.1
  unfold varsL
  split
  · rw [List.length_zip]; omega
  · simp
set_option maxRecDepth 100000 in
set_option maxHeartbeats 6400000 in
theorem entries_law (v0 : Value) (t0 : VT) (key : ByteArray) (w : World) (hp : Pow w) (h0 : VAt w v0 t0) (wf0 : t0.wf) (fit0 : t0.fit) : Calls Tryz.prog 9 #[v0, .string key] w (LawPost w) := by
  have VV := fun W (hW : Below w.heap.size w W) => Lib.hid ((vvars_any t0 wf0 v0 W (h0.below hW)).mono fun e w' h => vs_open h)
  have RV := fun W (hW : Below w.heap.size w W) => Lib.hid ((rvars_any t0 wf0 v0 W (h0.below hW)).mono fun e w' h => rvs_open h)
  have GV := fun W (hW : Below w.heap.size w W) => Lib.hid ((vget_any t0 key wf0 fit0 v0 W (h0.below hW)).mono fun e w' h => get_open h)
  have RG := fun W (hW : Below w.heap.size w W) => Lib.hid ((rget_any t0 key fit0 v0 W (h0.below hW)).mono fun e w' h => get_open h)
  have TV := fun W (hW : Below w.heap.size w W) => Lib.hid (text_any t0 wf0 v0 W (hp.below hW) (h0.below hW))
  have RT := fun W (hW : Below w.heap.size w W) => Lib.hid (rtext_any t0 wf0 v0 W (h0.below hW))
  have AW := fun W (hW : Below w.heap.size w W) => Lib.hid (awake_any W (hp.below hW))
  have hgw := get_wf key wf0
  have hvw := vars_wf wf0
  have hvl := vars_len wf0
  obtain ⟨lo0, lc0, ko0, kc0, rfl⟩ := h0.form
  generalize t0.kind = k0 at *
  generalize t0.bool = b0 at *
  generalize t0.int = n0 at *
  generalize t0.str = s0 at *
  generalize t0.list.length = ll0 at *
  generalize t0.keys.length = kl0 at *
  generalize varsE t0 = ve at *
  generalize varsL t0 = VL at *
  generalize (getF t0 key).isSome = gb at *
  generalize (getF t0 key).getD VT.zero = x at *
  generalize bx (textF t0).1 = sb at *
  generalize (textF t0).2 = tn at *
  clear h0
  obtain ⟨w1, hw1⟩ : ∃ w1, w.alloc (.cells #[.int .i64 k0, .bool b0, .int .i64 n0, .string s0, .slice lo0 ll0 lc0, .slice ko0 kl0 kc0] 25 (0, 0)) = w1 := ⟨_, rfl⟩
  have hz1 : w1.heap.size = w.heap.size + 1 := by rw [← hw1]; simp
  have hbx1 : Below w.heap.size w w1 := by rw [← hw1]; exact (Below.refl _ w).alloc (Nat.le_refl _) _
  have hk0 : w1.heap[w.heap.size]? = some (.cells #[.int .i64 k0, .bool b0, .int .i64 n0, .string s0, .slice lo0 ll0 lc0, .slice ko0 kl0 kc0] 25 (0, 0)) := by rw [← hw1]; exact hp_new (by omega)
  have HK0 := Lib.hid hk0
  have HB : Hid (Below w.heap.size w w1) := hbx1
  have HLT : Hid (w.heap.size + 1 ≤ w1.heap.size) := by unfold Hid; omega
  have HF : Hid (∀ W' : World, Below w1.heap.size w1 W' → W'.cell? ⟨w.heap.size, 0, none⟩ = some (.int .i64 k0) ∧ W'.cell? ⟨w.heap.size, 1, none⟩ = some (.bool b0) ∧ W'.cell? ⟨w.heap.size, 2, none⟩ = some (.int .i64 n0) ∧ W'.cell? ⟨w.heap.size, 3, none⟩ = some (.string s0) ∧ W'.cell? ⟨w.heap.size, 4, none⟩ = some (.slice lo0 ll0 lc0) ∧ W'.cell? ⟨w.heap.size, 5, none⟩ = some (.slice ko0 kl0 kc0) ∧ Below w1.heap.size w1 W') := fun W' hb => by
    have q0 := (hb.block (w.heap.size) (by have := HLT.out; omega)).trans HK0.out
    exact ⟨cell_of_blk q0 0, cell_of_blk q0 1, cell_of_blk q0 2, cell_of_blk q0 3, cell_of_blk q0 4, cell_of_blk q0 5, hb⟩
  have HS0 := Lib.hid (HF.out _ (Below.refl _ w1).drew)
  have HW1 := Lib.hid hw1
  have SVW := fun (u v : Value) (B C : Nat → Prop) (W : World) (h1 : EVar.Row B W VL u) (h2 : EVar.Row C W VL v) => Lib.hid (samevars_eq VL u v B C hvl hvw W h1 h2)
  have SMW := fun (u v : Value) (W : World) (h1 : VAt W u x) (h2 : VAt W v x) => Lib.hid (same_any x x hgw hgw u v W h1 h2)
  rw [(sameV_iff x x).2 rfl] at SMW
  generalize x.kind = xk at *
  generalize x.bool = xb at *
  generalize x.int = xn at *
  generalize x.str = xs at *
  generalize x.list.length = xll at *
  generalize x.keys.length = xkl at *
  have te : ((ve : Int) == (ve : Int)) = true := beq_self_eq_true _
  have tg : (gb == gb) = true := beq_self_eq_true _
  have ts : (sb.toList == sb.toList) = true := beq_self_eq_true _
  have tt : ((tn : Int) == (tn : Int)) = true := beq_self_eq_true _
  clear hp wf0 fit0 hgw hvw hvl
  clear hk0 hbx1 hw1 hz1
  go_enter Tryz.func9, Tryz.ntmps9
  go_upto_region 1 with fail
  rw [HW1.out]
  clear HW1
  have X1 := Lib.hid (Below.refl w1.heap.size w1)
  obtain ⟨c00, c01, c02, c03, c04, c05, _⟩ := HF.out _ X1.out
  have CA := VV w1 (HB.out.trans (X1.out.mono HB.out.size))
  as_aux_lemma =>
  go_wp2_with fail
  refine CA.out.mono ?_
  rintro e w2 ⟨ao, cap, rfl, hr1, hb⟩
  have X2 := Lib.hid hb
  have R1 := Lib.hid hr1
  clear hb hr1 CA VV c00 c01 c02 c03 c04 c05
  obtain ⟨c00, c01, c02, c03, c04, c05, _⟩ := HF.out _ X2.out
  have CA := RV w2 (HB.out.trans (X2.out.mono HB.out.size))
  as_aux_lemma =>
  go_wp2_with fail
  refine CA.out.mono ?_
  rintro e w3 ⟨bo, bcap, rfl, hr2, hb⟩
  have X3 := Lib.hid (X2.out.trans (hb.mono X2.out.size))
  have R13 := Lib.hid (R1.out.below hb)
  have R2 := Lib.hid hr2
  clear hb hr2 CA RV R1 c00 c01 c02 c03 c04 c05
  obtain ⟨c00, c01, c02, c03, c04, c05, _⟩ := HF.out _ X3.out
  have CA := GV w3 (HB.out.trans (X3.out.mono HB.out.size))
  as_aux_lemma =>
  go_wp2_with fail
  refine CA.out.mono ?_
  rintro e w4 ⟨a1, c1, a2, c2, rfl, hv, hb⟩
  obtain ⟨w5, hw5⟩ : ∃ w5, w4.alloc (.cells #[.int .i64 xk, .bool xb, .int .i64 xn, .string xs, .slice a1 xll c1, .slice a2 xkl c2] 25 (0, 0)) = w5 := ⟨_, rfl⟩
  have hk5 : w5.heap[w4.heap.size]? = some (.cells #[.int .i64 xk, .bool xb, .int .i64 xn, .string xs, .slice a1 xll c1, .slice a2 xkl c2] 25 (0, 0)) := by rw [← hw5]; exact hp_new rfl
  have hb5 : Below w4.heap.size w4 w5 := by rw [← hw5]; exact (Below.refl _ w4).alloc (Nat.le_refl _) _
  have HLT5 : Hid (w4.heap.size < w5.heap.size) := (Array.getElem?_eq_some_iff.1 hk5).1
  have HK5 := Lib.hid hk5
  have HW5 := Lib.hid hw5
  clear hw5 hk5
  have HB35 := Lib.hid (hb.trans (hb5.mono hb.size))
  have X5 := Lib.hid (X3.out.trans (HB35.out.mono X3.out.size))
  have V5 := Lib.hid (hv.below hb5)
  have R15 := Lib.hid (R13.out.below HB35.out)
  have R25 := Lib.hid (R2.out.below HB35.out)
  clear hb hb5 hv CA GV R13 R2 HB35 c00 c01 c02 c03 c04 c05
  go_upto_region 4 with fail
  rw [HW5.out]
  clear HW5
  obtain ⟨c00, c01, c02, c03, c04, c05, _⟩ := HF.out _ X5.out
  have CA := RG w5 (HB.out.trans (X5.out.mono HB.out.size))
  as_aux_lemma =>
  go_wp2_with fail
  refine CA.out.mono ?_
  rintro e w6 ⟨a3, c3, a4, c4, rfl, hv, hb⟩
  obtain ⟨w7, hw7⟩ : ∃ w7, w6.alloc (.cells #[.int .i64 xk, .bool xb, .int .i64 xn, .string xs, .slice a3 xll c3, .slice a4 xkl c4] 25 (0, 0)) = w7 := ⟨_, rfl⟩
  have hk7 : w7.heap[w6.heap.size]? = some (.cells #[.int .i64 xk, .bool xb, .int .i64 xn, .string xs, .slice a3 xll c3, .slice a4 xkl c4] 25 (0, 0)) := by rw [← hw7]; exact hp_new rfl
  have hb7 : Below w6.heap.size w6 w7 := by rw [← hw7]; exact (Below.refl _ w6).alloc (Nat.le_refl _) _
  have HLT7 : Hid (w6.heap.size < w7.heap.size) := (Array.getElem?_eq_some_iff.1 hk7).1
  have HK7 := Lib.hid hk7
  have HW7 := Lib.hid hw7
  clear hw7 hk7
  have HB57 := Lib.hid (hb.trans (hb7.mono hb.size))
  have X7 := Lib.hid (X5.out.trans (HB57.out.mono X5.out.size))
  have V7 := Lib.hid (hv.below hb7)
  have V57 := Lib.hid (V5.out.below HB57.out)
  have R17 := Lib.hid (R15.out.below HB57.out)
  have R27 := Lib.hid (R25.out.below HB57.out)
  have K57 := Lib.hid ((HB57.out.block _ HLT5.out).trans HK5.out)
  have L57 : Hid (w4.heap.size < w7.heap.size) := (Array.getElem?_eq_some_iff.1 K57.out).1
  clear hb hb7 hv CA RG V5 R15 R25 HB57 HK5 HLT5 c00 c01 c02 c03 c04 c05
  go_upto_region 5 with fail
  rw [HW7.out]
  clear HW7
  obtain ⟨c00, c01, c02, c03, c04, c05, _⟩ := HF.out _ X7.out
  have CA := TV w7 (HB.out.trans (X7.out.mono HB.out.size))
  as_aux_lemma =>
  go_wp2_with fail
  refine CA.out.mono ?_
  rintro e w8 ⟨rfl, hb⟩
  have Y8 := Lib.hid hb
  have X8 := Lib.hid (X7.out.trans (hb.mono X7.out.size))
  clear hb CA TV c00 c01 c02 c03 c04 c05
  obtain ⟨c00, c01, c02, c03, c04, c05, _⟩ := HF.out _ X8.out
  have CA := RT w8 (HB.out.trans (X8.out.mono HB.out.size))
  as_aux_lemma =>
  go_wp2_with fail
  refine CA.out.mono ?_
  rintro e w9 ⟨rfl, hb⟩
  have Y9 := Lib.hid (Y8.out.trans (hb.mono Y8.out.size))
  have X9 := Lib.hid (X8.out.trans (hb.mono X8.out.size))
  clear hb CA RT Y8 X8 c00 c01 c02 c03 c04 c05
  have CA := SVW _ _ _ _ w9 (R17.out.below Y9.out) (R27.out.below Y9.out)
  as_aux_lemma =>
  go_wp2_with fail
  refine CA.out.mono ?_
  rintro e w10 ⟨rfl, hb⟩
  have Y10 := Lib.hid (Y9.out.trans (hb.mono Y9.out.size))
  have X10 := Lib.hid (X9.out.trans (hb.mono X9.out.size))
  clear hb CA SVW Y9 X9 R17 R27
  have k5 := (Y10.out.block _ L57.out).trans K57.out
  have k7 := (Y10.out.block _ HLT7.out).trans HK7.out
  have x0 := cell_of_blk k5 0
  have x1 := cell_of_blk k5 1
  have x2 := cell_of_blk k5 2
  have x3 := cell_of_blk k5 3
  have x4 := cell_of_blk k5 4
  have x5 := cell_of_blk k5 5
  have y0 := cell_of_blk k7 0
  have y1 := cell_of_blk k7 1
  have y2 := cell_of_blk k7 2
  have y3 := cell_of_blk k7 3
  have y4 := cell_of_blk k7 4
  have y5 := cell_of_blk k7 5
  have CA := SMW _ _ w10 (V57.out.below Y10.out) (V7.out.below Y10.out)
  clear k5 k7
  as_aux_lemma =>
  go_wp2_with fail
  refine CA.out.mono ?_
  rintro e w11 ⟨rfl, hb⟩
  have X11 := Lib.hid (X10.out.trans (hb.mono X10.out.size))
  clear hb CA SMW x0 x1 x2 x3 x4 x5 y0 y1 y2 y3 y4 y5
  have CA := AW w11 (HB.out.trans (X11.out.mono HB.out.size))
  as_aux_lemma =>
  go_wp2_with fail
  refine CA.out.mono ?_
  rintro e w12 ⟨rfl, hb⟩
  have X12 := Lib.hid (X11.out.trans (hb.mono X11.out.size))
  clear hb CA
  go_wp2_with fail
  go_ret
  exact ⟨rfl, HB.out.trans (X12.out.mono HB.out.size)⟩
end Go.Proofs.YtbndgmbjfgmdnaaGreatDoor
