/- The walk over the execution's effect. -/
import Derived.Test.YtghahghbahcpfaaGreatDoorSe9
import Derived.Test.YtghahghbahcpfaaGreatDoorVs2
import Derived.Test.YtghahghbahcpfaaGreatDoorVs4
import Derived.Test.YtghahghbahcpfaaGreatDoorVs8
import Derived.Test.YtghahghbahcpfaaGreatDoorVa2
namespace Go.Proofs.YtghahghbahcpfaaGreatDoor
open Go.RowKit

section
variable {P : Program} {md : Region.Mode} {ops : Array Oper} {Q : Exit → Act → World → Prop} {S : World → Prop} {z : Nat}
/-- two operations may come up -/
theorem wpAnyZ_two {i j : Nat} {o p : Oper} {n : Nat} {listed : Array Bool} {a : Act} {w : World} (hr : Region.ready md ops listed = [i, j]) (ho : ops.toList[i]? = some o) (hp : ops.toList[j]? = some p)
    (h : ∀ K' : Act → World → Prop, Shut (∀ a w, (i < z → S w) → ((i < z → S w) → wpAnyZ P md ops Q S z n (listed.setIfInBounds i true) a w) → K' a w) → if Region.wanted o (yielded ops a.tmps) = true then Oper.wp P o a w K' Q else K' (a.put o.dst undef) w)
    (k : ∀ K' : Act → World → Prop, Shut (∀ a w, (j < z → S w) → ((j < z → S w) → wpAnyZ P md ops Q S z n (listed.setIfInBounds j true) a w) → K' a w) → if Region.wanted p (yielded ops a.tmps) = true then Oper.wp P p a w K' Q else K' (a.put p.dst undef) w) :
    wpAnyZ P md ops Q S z (n + 1) listed a w :=
  ⟨fun h0 => (by rw [hr] at h0; cases h0), fun x hx => by
    rw [hr] at hx
    rcases List.mem_cons.1 hx with rfl | hx
    · exact wpOp_step (at_list ho) (fun K' hK => h K' (fun a w hS hW => hK a w ⟨hS, hW hS⟩))
    · rw [List.mem_singleton.1 hx]
      exact wpOp_step (at_list hp) (fun K' hK => k K' (fun a w hS hW => hK a w ⟨hS, hW hS⟩))⟩
end
abbrev tRes : TypeId := 52
abbrev tEff : TypeId := 54
theorem wp_store_rowM {P : Program} {o : Oper} {a : Act} {w : World} {K : Act → World → Prop} {Q : Exit → Act → World → Prop} (ty : TypeId) (x y : Operand) (ho : o.op = .store ty x y)
    (g : Nat) (hx : a.eval x = .pointer (some ⟨g, 0, none⟩)) (t : TypeId) (cur : Array Value) (hg : w.heap[g]? = some (.cells cur t (0, 0)))
    (v : Value) (hy : a.eval y = v) (hi : (P.info? ty).map (·.size) = some cur.size) (hs : v.cells.size = cur.size) (h1 : v.cells.toList.all (·.oneCell') = true)
    (h : ∀ w', Wrote g (.cells v.cells t (0, 0)) w w' → K (a.put o.dst undef) w') : Oper.wp P o a w K Q := by
  have hst := run_storeCells_at P g 0 t v.cells.toList 0 cur w hg (by simp [hs]) (List.all_eq_true.1 h1)
  have e : (cur.toList.take (0 + 0) ++ v.cells.toList ++ cur.toList.drop (0 + 0 + v.cells.toList.length)).toArray = v.cells := by
    apply Array.ext'
    simp [hs]
  rw [e] at hst
  obtain ⟨i, hi1, hi2⟩ := Option.map_eq_some_iff.1 hi
  unfold Oper.wp
  simp [execOp, ho, hx, hy, Instr.storeAt, Instr.sureAddr, storeVar, sizeOf, typeInfo, hi1, hi2, hs, hst, Result.andThen]
  exact h _ ⟨rfl, rfl, rfl, by simp [World.setRow], setRow_heap w g cur _ t _ hg, fun k hk => setRow_other w g k _ hk⟩
theorem wp_build4M {P : Program} {o : Oper} {a : Act} {w : World} {K : Act → World → Prop} {Q : Exit → Act → World → Prop} (t : TypeId) {i j k l : Nat} (x y z u : Operand) (ho : o.op = .build t #[(i, x), (j, y), (k, z), (l, u)])
    (vx vy vz vu : Value) (hx : a.eval x = vx) (hy : a.eval y = vy) (hz : a.eval z = vz) (hu : a.eval u = vu) (cells : Array Value) (hf : P.built t [(i, vx), (j, vy), (k, vz), (l, vu)] = some cells)
    (h : K (a.put o.dst (.agg cells)) w) : o.wp P a w K Q := by
  have e : (#[(i, x), (j, y), (k, z), (l, u)].map fun (i, x) => (i, a.eval x)).toList = [(i, a.eval x), (j, a.eval y), (k, a.eval z), (l, a.eval u)] := by simp
  refine wp_build t #[(i, x), (j, y), (k, z), (l, u)] ho ?_ ?_
  · rw [e, hx, hy, hz, hu, hf]; rfl
  · rw [e, hx, hy, hz, hu, hf]; exact h
theorem Tryz.built_res (z : Int) (ao : Option Addr) (n cap : Nat) (bo : Option Addr) (m cap2 : Nat) : Tryz.prog.built tRes [(0, .int .i64 1), (1, .int .i64 z), (2, .slice ao n cap), (4, .slice bo m cap2)] = some #[.int .i64 1, .int .i64 z, .slice ao n cap, .slice none 0 0, .slice bo m cap2, .string ⟨#[]⟩] := by kernel_rfl
theorem own_ne {α : Type} {E : ElemK α} {e : TypeId} {base : Nat} {B : Nat → Prop} {w : World} {L : List α} {v : Value} (h : E.Own e base B w L v) {b : Nat} {cur : Array Value} {t : TypeId} {fr : Nat × Nat} (hb : w.heap[b]? = some (.cells cur t fr)) (ht : t ≠ e) : v.ownBlock ≠ some b := by
  intro ev
  obtain ⟨css, _, _, h3⟩ := h
  obtain ⟨cur2, fr2, q⟩ := tyAt_owns h3 b ev
  rw [hb] at q
  injection q with q
  injection q with _ q _
  exact ht q
theorem bs_cut (lg : ByteArray) (n : Nat) (h : n = min lg.size 1048576) : bs (lg.extract 0 n) = (bs lg).take 1048576 := by
  unfold bs
  rw [ByteArray.data_extract, Array.toList_extract, h]
  have e : lg.size = lg.data.toList.length := Array.length_toList.symm
  rw [e]
  simp only [List.extract_eq_take_drop, Nat.sub_zero, List.drop_zero]
  rw [List.take_eq_take_iff]
  omega
/-- what stands of an effect in memory -/
def EffAt (B : Nat → Prop) (w : World) (E : EffM) (v : Value) : Prop :=
  ∃ iv ov tv sv lg, v = .agg #[.int .i64 E.status, .int .i64 E.cls, iv, ov, tv, .string E.child, .string lg, .int .i64 E.time, sv] ∧ bs lg = E.log ∧
    EOut.Row B w E.inputs iv ∧ EOut.Row B w E.outputs ov ∧ ETst.Row B w E.tests tv ∧ EEnt.Row B w E.saves sv
/-- an execution that has come to its end -/
structure Fin (x : StM) : Prop where
  rl : x.reads.length ≤ 1000000
  rn : (x.reads.map nmO).Nodup
  rs : ∀ o ∈ x.reads, o.name.size ≤ 1000000
  ol : x.outs.length ≤ 1000000
  on : (x.outs.map nmO).Nodup
  os : ∀ o ∈ x.outs, o.name.size ≤ 1000000
  lg : x.log.length ≤ 140737488355328
theorem Tryz.built_eff (st z : Int) (ao : Option Addr) (n cap : Nat) (bo : Option Addr) (m cap2 : Nat) (tq : Option Addr) (k cap3 : Nat) (ch lg : ByteArray) (t : Int) (so : Option Addr) (q cap4 : Nat) : Tryz.prog.built tEff [(0, .agg #[.int .i64 st, .int .i64 z, .slice ao n cap, .slice bo m cap2, .slice tq k cap3, .string ch]), (1, .string lg), (2, .int .i64 t), (3, .slice so q cap4)] = some #[.int .i64 st, .int .i64 z, .slice ao n cap, .slice bo m cap2, .slice tq k cap3, .string ch, .string lg, .int .i64 t, .slice so q cap4] := by kernel_rfl
set_option maxRecDepth 100000 in
set_option maxHeartbeats 6400000 in
theorem effect_any (xb : Nat) (c : Nat → Value) (x : StM) (z : Int) (hf : Fin x) (w : World) (hst : XSt xb c x w) :
    Calls Tryz.prog 35 #[.pointer (some ⟨xb, 0, none⟩), .int .i64 z] w fun e w' => ∃ v, e = .returned v ∧ EffAt (fun b => xb < b) w' (effectF x z) v ∧ Below xb w w' := by
  have hlt := hst.lt
  obtain ⟨cs, p, l, r, o, t, sv, hx⟩ := hst
  obtain ⟨rao, rcap, hrf⟩ := hx.reads.row.form
  subst hrf
  obtain ⟨oao, ocap, hof⟩ := hx.outs.row.form
  subst hof
  obtain ⟨tao, tcap, htf⟩ := hx.tests.form
  subst htf
  obtain ⟨sao, scap, hsf⟩ := hx.saves.form
  subst hsf
  obtain ⟨w1, hw1⟩ : ∃ w1, w.alloc (.cells #[.int .i64 0, .int .i64 0, .slice none 0 0, .slice none 0 0, .slice none 0 0, .string ⟨#[]⟩, .string ⟨#[]⟩, .int .i64 0, .slice none 0 0] tEff (0, 0)) = w1 := ⟨_, rfl⟩
  have hk1 : w1.heap[w.heap.size]? = some (.cells #[.int .i64 0, .int .i64 0, .slice none 0 0, .slice none 0 0, .slice none 0 0, .string ⟨#[]⟩, .string ⟨#[]⟩, .int .i64 0, .slice none 0 0] tEff (0, 0)) := by rw [← hw1]; exact hp_new rfl
  have hb1 : Below w.heap.size w w1 := by rw [← hw1]; exact (Below.refl _ w).alloc (Nat.le_refl _) _
  have HX1 := Lib.hid (hx.grow hb1)
  have HLW := Lib.hid hx.log
  have HB1 := Lib.hid hb1
  have HK1 := Lib.hid hk1
  have HW1 := Lib.hid hw1
  have z1 : w.heap.size < w1.heap.size := (Array.getElem?_eq_some_iff.1 hk1).1
  have SR : Hid (∀ W, Below w1.heap.size w1 W → Calls Tryz.prog 63 #[.slice rao x.reads.length rcap] W fun e w' => ∃ r, e = .returned r ∧ EOut.Row (fun b => W.heap.size ≤ b) w' (sortN nmO x.reads) r ∧ Below W.heap.size W w') := fun W hb => osorted_any x.reads _ _ hf.rl hf.rs hf.rn W (HX1.out.grow hb).reads.row
  have SO : Hid (∀ W, Below w1.heap.size w1 W → Calls Tryz.prog 63 #[.slice oao x.outs.length ocap] W fun e w' => ∃ r, e = .returned r ∧ EOut.Row (fun b => W.heap.size ≤ b) w' (sortN nmO x.outs) r ∧ Below W.heap.size W w') := fun W hb => osorted_any x.outs _ _ hf.ol hf.os hf.on W (HX1.out.grow hb).outs.row
  have HS1 : Hid (∀ W : World, Below w1.heap.size w1 W → W.cell? ⟨xb, 52, none⟩ = some (.slice rao x.reads.length rcap) ∧ W.cell? ⟨xb, 54, none⟩ = some (.slice tao x.tests.length tcap)) := fun W hb => ⟨(cell_of_blk (HX1.out.grow hb).blk 52).trans (HX1.out.grow hb).c52, (cell_of_blk (HX1.out.grow hb).blk 54).trans (HX1.out.grow hb).c54⟩
  have HDR : Hid (Below w1.heap.size w1 w1.drew) := (Below.refl _ _).drew
  have HF := Lib.hid hf
  have hxl := hx.lt
  clear hx hb1 hk1 hw1 hf
  go_enter Tryz.func35, Tryz.ntmps35
  go_upto_region 1 with fail
  rw [HW1.out]
  clear HW1
  go_cut [5] (fun s5 wx => ∃ g ao cap, s5 = .pointer (some ⟨g, 0, none⟩) ∧ w1.heap.size ≤ g ∧ wx.heap[g]? = some (.cells #[.int .i64 1, .int .i64 z, .slice ao (sortN nmO x.reads).length cap, .slice none 0 0, .slice tao x.tests.length tcap, .string ⟨#[]⟩] tRes (0, 0)) ∧ EOut.Row (fun b => w1.heap.size ≤ b ∧ b ≠ g) wx (sortN nmO x.reads) (.slice ao (sortN nmO x.reads).length cap) ∧ Below w1.heap.size w1 wx)
  · as_aux_lemma =>
    refine wp_region_Z (S := fun W : World => W.cell? ⟨xb, 52, none⟩ = some (.slice rao x.reads.length rcap) ∧ W.cell? ⟨xb, 54, none⟩ = some (.slice tao x.tests.length tcap)) 13 (by kernel_rfl) (HS1.out _ HDR.out) (fun hHeld => ?_)
    refine ztk 0 ?_
    try simp only [Act.put, zA, zB, zC]
    refine ztk 1 ?_
    try simp only [Act.put, zA, zB, zC]
    refine ztk 2 ?_
    try simp only [Act.put, zA, zB, zC]
    refine ztk 3 ?_
    try simp only [Act.put, zA, zB, zC]
    refine ztk 4 ?_
    try simp only [Act.put, zA, zB, zC]
    refine ztk 6 ?_
    try simp only [Act.put, zA, zB, zC]
    refine ztk 7 ?_
    try simp only [Act.put, zA, zB, zC]
    refine ztk 8 ?_
    try simp only [Act.put, zA, zB, zC]
    refine ztk 9 ?_
    try simp only [Act.put, zA, zB, zC]
    obtain ⟨wd, hwd⟩ : ∃ wd, w1.drew = wd := ⟨_, rfl⟩
    have HB := HDR
    rw [hwd] at HB ⊢
    clear hwd HDR hHeld
    refine wpAnyZ_two (i := 5) (j := 11) (by kernel_rfl) rfl rfl (fun K hK => ?_) (fun K hK => ?_)
    · go_simp
      go_at_call 63
      refine (SR.out _ HB.out).mono ?_
      rintro e wc ⟨r1, rfl, hrow, hb⟩
      obtain ⟨ao, cap, hv1⟩ := hrow.form
      subst hv1
      have HROW : Hid (EOut.Row (fun b => w1.heap.size ≤ b) wc (sortN nmO x.reads) (.slice ao (sortN nmO x.reads).length cap)) := hrow.mono fun b hb => Nat.le_trans HB.out.size hb
      have HB0 := HB
      replace HB : Hid (Below w1.heap.size w1 wc) := HB0.out.trans (hb.mono HB0.out.size)
      clear hb hrow HB0
      refine hK.out _ _ (fun _ => HS1.out _ HB.out) (fun hHeld => ?_)
      replace hHeld := hHeld (by decide)
      clear hK K
      try simp only [Act.put, zA, zB, zC]
      refine wpAnyZ_two (i := 10) (j := 11) (by kernel_rfl) rfl rfl (fun K hK => ?_) (fun K hK => ?_)
      · rw [if_pos (by rfl)]
        refine wp_build4M tRes (.const (.int .i64 1)) (.tmp 7) (.tmp 12) (.tmp 16) rfl _ _ _ _ rfl rfl rfl rfl #[.int .i64 1, .int .i64 z, .slice ao (sortN nmO x.reads).length cap, .slice none 0 0, .slice tao x.tests.length tcap, .string ⟨#[]⟩] (Tryz.built_res _ _ _ _ _ _ _) ?_
        refine hK.out _ _ (fun _ => HS1.out _ HB.out) (fun hHeld => ?_)
        replace hHeld := hHeld (by decide)
        clear hK K
        try simp only [Act.put, zA, zB, zC]
        refine wpAnyZ_oneL (i := 11) (by kernel_rfl) rfl (fun K hK => ?_)
        go_simp
        obtain ⟨wa, hwa⟩ : ∃ wa, World.alloc wc (.cells #[.int .i64 0, .int .i64 0, .slice none 0 0, .slice none 0 0, .slice none 0 0, .string ⟨#[]⟩] tRes (0, 0)) = wa := ⟨_, rfl⟩
        have hb : Below (World.heap wc).size wc wa := by rw [← hwa]; exact (Below.refl _ _).alloc (Nat.le_refl _) _
        have HG : Hid (wa.heap[(World.heap wc).size]? = some (.cells #[.int .i64 0, .int .i64 0, .slice none 0 0, .slice none 0 0, .slice none 0 0, .string ⟨#[]⟩] tRes (0, 0))) := by unfold Hid; rw [← hwa]; exact hp_new rfl
        have HLG : Hid (w1.heap.size ≤ (World.heap wc).size) := HB.out.size
        rw [hwa]
        clear hwa
        obtain ⟨g, hge⟩ : ∃ g, (World.heap wc).size = g := ⟨_, rfl⟩
        rw [hge] at HG HLG
        rw [hge]
        replace HROW : Hid (EOut.Row (fun b => w1.heap.size ≤ b ∧ b ≠ g) wa (sortN nmO x.reads) (.slice ao (sortN nmO x.reads).length cap)) := (HROW.out.lt.mono fun b hb => ⟨hb.1, by have := hb.2; omega⟩).below hb
        have HB0 := HB
        replace HB : Hid (Below w1.heap.size w1 wa) := HB0.out.trans (hb.mono HB0.out.size)
        clear hb HB0 hge
        refine hK.out _ _ (fun _ => HS1.out _ HB.out) (fun hHeld => ?_)
        replace hHeld := hHeld (by decide)
        clear hK K
        try simp only [Act.put, zA, zB, zC]
        refine wpAnyZ_oneL (i := 12) (by kernel_rfl) rfl (fun K hK => ?_)
        rw [if_pos (by rfl)]
        refine wp_store_rowM tRes _ _ rfl g rfl tRes _ HG.out (.agg #[.int .i64 1, .int .i64 z, .slice ao (sortN nmO x.reads).length cap, .slice none 0 0, .slice tao x.tests.length tcap, .string ⟨#[]⟩]) rfl (by kernel_rfl) rfl rfl ?_
        intro wz hwz
        have HZ : Hid (Below w1.heap.size w1 wz) := HB.out.trans (hwz.below HLG.out)
        have HZG := Lib.hid hwz.at_
        have HZR : Hid (EOut.Row (fun b => w1.heap.size ≤ b ∧ b ≠ g) wz (sortN nmO x.reads) (.slice ao (sortN nmO x.reads).length cap)) := HROW.out.keep (Nat.le_of_eq hwz.size.symm) fun b hb _ => hwz.block b hb.2
        clear hwz
        refine hK.out _ _ (fun _ => HS1.out _ HZ.out) (fun hHeld => ?_)
        replace hHeld := hHeld (by decide)
        clear hK K
        try simp only [Act.put]
        refine wpAnyZ_done (by kernel_rfl) ?_ _
        clear hHeld
        go_wp2_with fail
        go_meet
        exact ⟨g, ao, cap, rfl, HLG.out, HZG.out, HZR.out, HZ.out⟩
      · go_simp
        obtain ⟨wa, hwa⟩ : ∃ wa, World.alloc wc (.cells #[.int .i64 0, .int .i64 0, .slice none 0 0, .slice none 0 0, .slice none 0 0, .string ⟨#[]⟩] tRes (0, 0)) = wa := ⟨_, rfl⟩
        have hb : Below (World.heap wc).size wc wa := by rw [← hwa]; exact (Below.refl _ _).alloc (Nat.le_refl _) _
        have HG : Hid (wa.heap[(World.heap wc).size]? = some (.cells #[.int .i64 0, .int .i64 0, .slice none 0 0, .slice none 0 0, .slice none 0 0, .string ⟨#[]⟩] tRes (0, 0))) := by unfold Hid; rw [← hwa]; exact hp_new rfl
        have HLG : Hid (w1.heap.size ≤ (World.heap wc).size) := HB.out.size
        rw [hwa]
        clear hwa
        obtain ⟨g, hge⟩ : ∃ g, (World.heap wc).size = g := ⟨_, rfl⟩
        rw [hge] at HG HLG
        rw [hge]
        replace HROW : Hid (EOut.Row (fun b => w1.heap.size ≤ b ∧ b ≠ g) wa (sortN nmO x.reads) (.slice ao (sortN nmO x.reads).length cap)) := (HROW.out.lt.mono fun b hb => ⟨hb.1, by have := hb.2; omega⟩).below hb
        have HB0 := HB
        replace HB : Hid (Below w1.heap.size w1 wa) := HB0.out.trans (hb.mono HB0.out.size)
        clear hb HB0 hge
        refine hK.out _ _ (fun _ => HS1.out _ HB.out) (fun hHeld => ?_)
        replace hHeld := hHeld (by decide)
        clear hK K
        try simp only [Act.put, zA, zB, zC]
        refine wpAnyZ_oneL (i := 10) (by kernel_rfl) rfl (fun K hK => ?_)
        rw [if_pos (by rfl)]
        refine wp_build4M tRes (.const (.int .i64 1)) (.tmp 7) (.tmp 12) (.tmp 16) rfl _ _ _ _ rfl rfl rfl rfl #[.int .i64 1, .int .i64 z, .slice ao (sortN nmO x.reads).length cap, .slice none 0 0, .slice tao x.tests.length tcap, .string ⟨#[]⟩] (Tryz.built_res _ _ _ _ _ _ _) ?_
        refine hK.out _ _ (fun _ => HS1.out _ HB.out) (fun hHeld => ?_)
        replace hHeld := hHeld (by decide)
        clear hK K
        try simp only [Act.put, zA, zB, zC]
        refine wpAnyZ_oneL (i := 12) (by kernel_rfl) rfl (fun K hK => ?_)
        rw [if_pos (by rfl)]
        refine wp_store_rowM tRes _ _ rfl g rfl tRes _ HG.out (.agg #[.int .i64 1, .int .i64 z, .slice ao (sortN nmO x.reads).length cap, .slice none 0 0, .slice tao x.tests.length tcap, .string ⟨#[]⟩]) rfl (by kernel_rfl) rfl rfl ?_
        intro wz hwz
        have HZ : Hid (Below w1.heap.size w1 wz) := HB.out.trans (hwz.below HLG.out)
        have HZG := Lib.hid hwz.at_
        have HZR : Hid (EOut.Row (fun b => w1.heap.size ≤ b ∧ b ≠ g) wz (sortN nmO x.reads) (.slice ao (sortN nmO x.reads).length cap)) := HROW.out.keep (Nat.le_of_eq hwz.size.symm) fun b hb _ => hwz.block b hb.2
        clear hwz
        refine hK.out _ _ (fun _ => HS1.out _ HZ.out) (fun hHeld => ?_)
        replace hHeld := hHeld (by decide)
        clear hK K
        try simp only [Act.put]
        refine wpAnyZ_done (by kernel_rfl) ?_ _
        clear hHeld
        go_wp2_with fail
        go_meet
        exact ⟨g, ao, cap, rfl, HLG.out, HZG.out, HZR.out, HZ.out⟩
    · go_simp
      obtain ⟨wa, hwa⟩ : ∃ wa, World.alloc wd (.cells #[.int .i64 0, .int .i64 0, .slice none 0 0, .slice none 0 0, .slice none 0 0, .string ⟨#[]⟩] tRes (0, 0)) = wa := ⟨_, rfl⟩
      have hb : Below (World.heap wd).size wd wa := by rw [← hwa]; exact (Below.refl _ _).alloc (Nat.le_refl _) _
      have HG : Hid (wa.heap[(World.heap wd).size]? = some (.cells #[.int .i64 0, .int .i64 0, .slice none 0 0, .slice none 0 0, .slice none 0 0, .string ⟨#[]⟩] tRes (0, 0))) := by unfold Hid; rw [← hwa]; exact hp_new rfl
      have HLG : Hid (w1.heap.size ≤ (World.heap wd).size) := HB.out.size
      rw [hwa]
      clear hwa
      obtain ⟨g, hge⟩ : ∃ g, (World.heap wd).size = g := ⟨_, rfl⟩
      rw [hge] at HG HLG
      rw [hge]
      have HB0 := HB
      replace HB : Hid (Below w1.heap.size w1 wa) := HB0.out.trans (hb.mono HB0.out.size)
      clear hb HB0 hge
      refine hK.out _ _ (fun _ => HS1.out _ HB.out) (fun hHeld => ?_)
      replace hHeld := hHeld (by decide)
      clear hK K
      try simp only [Act.put, zA, zB, zC]
      refine wpAnyZ_oneL (i := 5) (by kernel_rfl) rfl (fun K hK => ?_)
      go_simp
      go_at_call 63
      refine (SR.out _ HB.out).mono ?_
      rintro e wc ⟨r1, rfl, hrow, hb⟩
      obtain ⟨ao, cap, hv1⟩ := hrow.form
      subst hv1
      have HROW : Hid (EOut.Row (fun b => w1.heap.size ≤ b ∧ b ≠ g) wc (sortN nmO x.reads) (.slice ao (sortN nmO x.reads).length cap)) := hrow.mono fun b hb => ⟨Nat.le_trans HB.out.size hb, by have := (Array.getElem?_eq_some_iff.1 HG.out).1; omega⟩
      replace HG := Lib.hid ((hb.block _ (Array.getElem?_eq_some_iff.1 HG.out).1).trans HG.out)
      have HB0 := HB
      replace HB : Hid (Below w1.heap.size w1 wc) := HB0.out.trans (hb.mono HB0.out.size)
      clear hb hrow HB0
      refine hK.out _ _ (fun _ => HS1.out _ HB.out) (fun hHeld => ?_)
      replace hHeld := hHeld (by decide)
      clear hK K
      try simp only [Act.put, zA, zB, zC]
      refine wpAnyZ_oneL (i := 10) (by kernel_rfl) rfl (fun K hK => ?_)
      rw [if_pos (by rfl)]
      refine wp_build4M tRes (.const (.int .i64 1)) (.tmp 7) (.tmp 12) (.tmp 16) rfl _ _ _ _ rfl rfl rfl rfl #[.int .i64 1, .int .i64 z, .slice ao (sortN nmO x.reads).length cap, .slice none 0 0, .slice tao x.tests.length tcap, .string ⟨#[]⟩] (Tryz.built_res _ _ _ _ _ _ _) ?_
      refine hK.out _ _ (fun _ => HS1.out _ HB.out) (fun hHeld => ?_)
      replace hHeld := hHeld (by decide)
      clear hK K
      try simp only [Act.put, zA, zB, zC]
      refine wpAnyZ_oneL (i := 12) (by kernel_rfl) rfl (fun K hK => ?_)
      rw [if_pos (by rfl)]
      refine wp_store_rowM tRes _ _ rfl g rfl tRes _ HG.out (.agg #[.int .i64 1, .int .i64 z, .slice ao (sortN nmO x.reads).length cap, .slice none 0 0, .slice tao x.tests.length tcap, .string ⟨#[]⟩]) rfl (by kernel_rfl) rfl rfl ?_
      intro wz hwz
      have HZ : Hid (Below w1.heap.size w1 wz) := HB.out.trans (hwz.below HLG.out)
      have HZG := Lib.hid hwz.at_
      have HZR : Hid (EOut.Row (fun b => w1.heap.size ≤ b ∧ b ≠ g) wz (sortN nmO x.reads) (.slice ao (sortN nmO x.reads).length cap)) := HROW.out.keep (Nat.le_of_eq hwz.size.symm) fun b hb _ => hwz.block b hb.2
      clear hwz
      refine hK.out _ _ (fun _ => HS1.out _ HZ.out) (fun hHeld => ?_)
      replace hHeld := hHeld (by decide)
      clear hK K
      try simp only [Act.put]
      refine wpAnyZ_done (by kernel_rfl) ?_ _
      clear hHeld
      go_wp2_with fail
      go_meet
      exact ⟨g, ao, cap, rfl, HLG.out, HZG.out, HZR.out, HZ.out⟩
  obtain ⟨g, ao, cap, rfl, hg, hkg, hrow, hb2⟩ := hcut
  have HG := Lib.hid hkg
  have HROW := Lib.hid hrow
  have HB3 := Lib.hid hb2
  have HX3 := Lib.hid (HX1.out.grow hb2)
  have zg : g < wc.heap.size := (Array.getElem?_eq_some_iff.1 hkg).1
  have HLL : Hid (∀ q, l.ownBlock = some q → q < w.heap.size) := fun q e => (HLW.out.lt q e).2
  obtain ⟨nr, hnr⟩ : ∃ n, (sortN nmO x.reads).length = n := ⟨_, rfl⟩
  rw [hnr] at HG HROW
  have HS3 : Hid (∀ W : World, Below w1.heap.size w1 W → W.cell? ⟨xb, 53, none⟩ = some (.slice oao x.outs.length ocap) ∧ W.cell? ⟨xb, 56, none⟩ = some (.string x.child)) := fun W hb => ⟨(cell_of_blk (HX1.out.grow hb).blk 53).trans (HX1.out.grow hb).c53, (cell_of_blk (HX1.out.grow hb).blk 56).trans (HX1.out.grow hb).c56⟩
  have HDR3 : Hid (Below wc.heap.size wc wc.drew) := (Below.refl _ _).drew
  clear hkg hrow hb2 HS1 SR HDR hnr
  by_cases hz : z = 0
  · subst hz
    have HE : Hid (effectF x 0 = ⟨1, 0, sortN nmO x.reads, sortN nmO x.outs, x.tests, x.child, x.log.take 1048576, x.time, x.saves⟩) := rfl
    go_upto_region 3 with fail
    refine wp_region_Z (S := fun W : World => W.cell? ⟨xb, 53, none⟩ = some (.slice oao x.outs.length ocap) ∧ W.cell? ⟨xb, 56, none⟩ = some (.string x.child)) 13 (by kernel_rfl) (HS3.out _ (HB3.out.trans (HDR3.out.mono HB3.out.size))) (fun hHeld => ?_)
    refine ztk 0 ?_
    try simp only [Act.put, zA, zB, zC]
    refine ztk 1 ?_
    try simp only [Act.put, zA, zB, zC]
    refine ztk 2 ?_
    try simp only [Act.put, zA, zB, zC]
    refine ztk 3 ?_
    try simp only [Act.put, zA, zB, zC]
    refine ztk 5 ?_
    try simp only [Act.put, zA, zB, zC]
    refine ztk 6 ?_
    try simp only [Act.put, zA, zB, zC]
    refine ztk 7 ?_
    try simp only [Act.put, zA, zB, zC]
    refine ztk 8 ?_
    try simp only [Act.put, zA, zB, zC]
    refine wpAnyZ_oneL (i := 4) (by kernel_rfl) rfl (fun K hK => ?_)
    go_simp
    go_at_call 63
    refine (SO.out _ (HB3.out.trans (HDR3.out.mono HB3.out.size))).mono ?_
    rintro e w5 ⟨r2, rfl, hrow, hb⟩
    obtain ⟨ao2, cap2, hv2⟩ := hrow.form
    subst hv2
    obtain ⟨no, hno⟩ : ∃ n, (sortN nmO x.outs).length = n := ⟨_, rfl⟩
    rw [hno] at hrow
    rw [hno]
    have HB5 : Hid (Below wc.heap.size wc w5) := HDR3.out.trans (hb.mono HDR3.out.size)
    have HB15 : Hid (Below w1.heap.size w1 w5) := HB3.out.trans (HB5.out.mono HB3.out.size)
    have HG5 := Lib.hid ((HB5.out.block _ zg).trans HG.out)
    have HROW5 : Hid (EOut.Row (fun b => w1.heap.size ≤ b ∧ b ≠ g) w5 (sortN nmO x.outs) (.slice ao2 no cap2)) := hrow.mono fun b hb => by
      have h1 := HB3.out.size
      have h2 : wc.heap.size ≤ b := hb
      exact ⟨by omega, by omega⟩
    have g53 : w5.cell? ⟨g, 3, none⟩ = some (.slice none 0 0) := cell_of_blk HG5.out 3
    have gf53 := free_of_blk HG5.out 3
    have HW6 := Lib.hid (wrote_setCell HG5.out 3 (.slice ao2 no cap2))
    clear hrow hb hno
    refine hK.out _ _ (fun _ => HS3.out _ HB15.out) (fun hHeld => ?_)
    replace hHeld := hHeld (by decide)
    clear hK K
    try simp only [Act.put, zA, zB, zC]
    refine ztk 9 ?_
    try simp only [Act.put, zA, zB, zC]
    refine wpAnyZ_oneL (i := 10) (by kernel_rfl) rfl (fun K hK => ?_)
    go_simp
    obtain ⟨w6, hw6⟩ : ∃ W, w5.setCell ⟨g, 3, none⟩ (.slice ao2 no cap2) = W := ⟨_, rfl⟩
    rw [hw6] at HW6
    rw [hw6]
    clear hw6 g53 gf53
    have HG6 : Hid (w6.heap[g]? = some (.cells #[.int .i64 1, .int .i64 0, .slice ao nr cap, .slice ao2 no cap2, .slice tao x.tests.length tcap, .string ⟨#[]⟩] tRes (0, 0))) := HW6.out.at_
    have HB16 : Hid (Below w1.heap.size w1 w6) := HB15.out.trans (HW6.out.below hg)
    have g65 : w6.cell? ⟨g, 5, none⟩ = some (.string ⟨#[]⟩) := cell_of_blk HG6.out 5
    have gf65 := free_of_blk HG6.out 5
    have HW7 := Lib.hid (wrote_setCell HG6.out 5 (.string x.child))
    refine hK.out _ _ (fun _ => HS3.out _ HB16.out) (fun hHeld => ?_)
    replace hHeld := hHeld (by decide)
    clear hK K
    try simp only [Act.put]
    refine ztk 11 ?_
    try simp only [Act.put, zA, zB, zC]
    refine wpAnyZ_oneL (i := 12) (by kernel_rfl) rfl (fun K hK => ?_)
    go_simp
    obtain ⟨w7, hw7⟩ : ∃ W, w6.setCell ⟨g, 5, none⟩ (.string x.child) = W := ⟨_, rfl⟩
    rw [hw7] at HW7
    rw [hw7]
    clear hw7 g65 gf65
    have HB17 : Hid (Below w1.heap.size w1 w7) := HB16.out.trans (HW7.out.below hg)
    have HG8 : Hid (w7.heap[g]? = some (.cells #[.int .i64 1, .int .i64 0, .slice ao nr cap, .slice ao2 no cap2, .slice tao x.tests.length tcap, .string x.child] tRes (0, 0))) := HW7.out.at_
    have HROW8 : Hid (EOut.Row (fun b => w1.heap.size ≤ b ∧ b ≠ g) w7 (sortN nmO x.outs) (.slice ao2 no cap2)) := (HROW5.out.keep (Nat.le_of_eq HW6.out.size.symm) fun b hb _ => HW6.out.block b hb.2).keep (Nat.le_of_eq HW7.out.size.symm) fun b hb _ => HW7.out.block b hb.2
    have HROWI : Hid (EOut.Row (fun b => w1.heap.size ≤ b ∧ b ≠ g) w7 (sortN nmO x.reads) (.slice ao nr cap)) := ((HROW.out.below HB5.out).keep (Nat.le_of_eq HW6.out.size.symm) fun b hb _ => HW6.out.block b hb.2).keep (Nat.le_of_eq HW7.out.size.symm) fun b hb _ => HW7.out.block b hb.2
    refine hK.out _ _ (fun _ => HS3.out _ HB17.out) (fun hHeld => ?_)
    replace hHeld := hHeld (by decide)
    clear hK K
    try simp only [Act.put]
    refine wpAnyZ_done (by kernel_rfl) ?_ _
    clear hHeld
    clear HS3 HDR3 SO HW6 HW7 HG6 HG5 HROW5 HROW HG
    obtain ⟨ch, hch⟩ : ∃ ch, x.child = ch := ⟨_, rfl⟩
    obtain ⟨ous, hous⟩ : ∃ ous, sortN nmO x.outs = ous := ⟨_, rfl⟩
    rw [hch] at HE HG8
    rw [hous] at HE HROW8
    clear hch hous
    have hx7 := HX1.out.grow HB17.out
    have HX7 := Lib.hid hx7
    have STR := Lib.hid (bstring_any xb cs x.log l w7 hx7.blk hx7.c51 hx7.log HF.out.lg)
    clear hx7 HX1 HX3 HB3
    go_wp2_with fail
    refine STR.out.mono ?_
    rintro e w8 ⟨rfl, hk⟩
    have HK8 := Lib.hid hk
    obtain ⟨lg, hlg⟩ : ∃ lg : ByteArray, (⟨x.log.toArray⟩ : ByteArray) = lg := ⟨_, rfl⟩
    rw [hlg]
    have HLG : Hid (bs lg = x.log) := by unfold Hid; rw [← hlg]
    have z1g : w.heap.size < g := by omega
    have zg7 : g < w7.heap.size := (Array.getElem?_eq_some_iff.1 HG8.out).1
    have HG9 : Hid (w8.heap[g]? = some (.cells #[.int .i64 1, .int .i64 0, .slice ao nr cap, (.slice ao2 no cap2), .slice tao x.tests.length tcap, .string ch] tRes (0, 0))) := (hk.block g zg7 (fun e => by have := HLL.out _ e; omega)).trans HG8.out
    obtain ⟨kx, kt, ks⟩ := HX7.out.kept1 hk
    have HKX := Lib.hid kx
    have HKT := Lib.hid kt
    have HKS := Lib.hid ks
    have HRB : Hid (w8.heap[w.heap.size]? = some (.cells #[.int .i64 0, .int .i64 0, .slice none 0 0, .slice none 0 0, .slice none 0 0, .string ⟨#[]⟩, .string ⟨#[]⟩, .int .i64 0, .slice none 0 0] tEff (0, 0))) := (hk.block _ (Nat.lt_of_lt_of_le z1 HB17.out.size) (fun e => by have := HLL.out _ e; omega)).trans ((HB17.out.block _ z1).trans HK1.out)
    have HR1 : Hid (EOut.Row (fun b => w1.heap.size ≤ b ∧ b ≠ g) w8 (sortN nmO x.reads) (.slice ao nr cap)) := HROWI.out.keep hk.size fun b hb hs => hk.block b hs (fun e => by have := HLL.out _ e; omega)
    have HR2 : Hid (EOut.Row (fun b => w1.heap.size ≤ b ∧ b ≠ g) w8 ous (.slice ao2 no cap2)) := HROW8.out.keep hk.size fun b hb hs => hk.block b hs (fun e => by have := HLL.out _ e; omega)
    have HB8 : Hid (Below xb w w8) := (HB1.out.mono (Nat.le_of_lt hxl)).trans ((HB17.out.mono (Nat.le_of_lt (Nat.lt_trans hxl z1))).trans ⟨hk.os, hk.tape, hk.output, hk.size, fun k hkk => hk.block k (by have := HB17.out.size; omega) (fun e => by have := (HLW.out.lt _ e).1; omega)⟩)
    have k49 : cs[49]? = some (.int .i64 x.time) := HX7.out.c49
    have k55 : cs[55]? = some (.slice sao x.saves.length scap) := HX7.out.c55
    have zx8 : xb < w8.heap.size := (Array.getElem?_eq_some_iff.1 kx).1
    have zg8 : g < w8.heap.size := (Array.getElem?_eq_some_iff.1 HG9.out).1
    have HS6 : Hid (∀ W : World, Below w8.heap.size w8 W → W.cell? ⟨g, 0, none⟩ = some (.int .i64 1) ∧ W.cell? ⟨g, 1, none⟩ = some (.int .i64 0) ∧ W.cell? ⟨g, 2, none⟩ = some (.slice ao nr cap) ∧ W.cell? ⟨g, 3, none⟩ = some (.slice ao2 no cap2) ∧ W.cell? ⟨g, 4, none⟩ = some (.slice tao x.tests.length tcap) ∧ W.cell? ⟨g, 5, none⟩ = some (.string ch) ∧ W.cell? ⟨xb, 49, none⟩ = some (.int .i64 x.time) ∧ W.cell? ⟨xb, 55, none⟩ = some (.slice sao x.saves.length scap)) := fun W hb =>
      have q := (hb.block g zg8).trans HG9.out
      have qx := (hb.block xb zx8).trans HKX.out
      ⟨cell_of_blk q 0, cell_of_blk q 1, cell_of_blk q 2, cell_of_blk q 3, cell_of_blk q 4, cell_of_blk q 5, (cell_of_blk qx 49).trans k49, (cell_of_blk qx 55).trans k55⟩
    have HDR6 : Hid (Below w8.heap.size w8 w8.drew) := (Below.refl _ _).drew
    have HLN : Hid (lg.size = x.log.length) := by unfold Hid; rw [← hlg]; exact List.size_toArray
    have hlgs : lg.size ≤ 140737488355328 := by rw [HLN.out]; exact HF.out.lg
    clear hk kx kt ks STR HG8 HROWI HROW8 HX7 hlg k49 k55 HLL HLW
    have hm1 : (0 : Int) ≤ min (lg.size : Int) 1048576 := by omega
    have hm2 : min (lg.size : Int) 1048576 ≤ (lg.size : Int) := by omega
    have HM : Hid ((min (lg.size : Int) 1048576).toNat = min lg.size 1048576) := by unfold Hid; omega
    clear HLN hlgs
    go_upto_region 6 with fail
    refine wp_region_Z (S := fun W : World => W.cell? ⟨g, 0, none⟩ = some (.int .i64 1) ∧ W.cell? ⟨g, 1, none⟩ = some (.int .i64 0) ∧ W.cell? ⟨g, 2, none⟩ = some (.slice ao nr cap) ∧ W.cell? ⟨g, 3, none⟩ = some (.slice ao2 no cap2) ∧ W.cell? ⟨g, 4, none⟩ = some (.slice tao x.tests.length tcap) ∧ W.cell? ⟨g, 5, none⟩ = some (.string ch) ∧ W.cell? ⟨xb, 49, none⟩ = some (.int .i64 x.time) ∧ W.cell? ⟨xb, 55, none⟩ = some (.slice sao x.saves.length scap)) 15 (by kernel_rfl) (HS6.out _ HDR6.out) (fun hHeld => ?_)
    refine ztk 0 ?_
    try simp only [Act.put, zA, zB, zC]
    refine ztk 1 ?_
    try simp only [Act.put, zA, zB, zC]
    refine ztk 2 ?_
    try simp only [Act.put, zA, zB, zC]
    refine ztk 3 ?_
    try simp only [Act.put, zA, zB, zC]
    refine ztk 4 ?_
    try simp only [Act.put, zA, zB, zC]
    refine ztk 5 ?_
    try simp only [Act.put, zA, zB, zC]
    refine ztk 6 ?_
    try simp only [Act.put, zA, zB, zC]
    refine ztk 7 ?_
    try simp only [Act.put, zA, zB, zC]
    refine ztk 8 ?_
    try simp only [Act.put, zA, zB, zC]
    refine ztk 9 ?_
    try simp only [Act.put, zA, zB, zC]
    refine ztk 10 ?_
    try simp only [Act.put, zA, zB, zC]
    refine ztk 11 ?_
    try simp only [Act.put, zA, zB, zC]
    refine ztk 12 ?_
    try simp only [Act.put, zA, zB, zC]
    refine ztk 13 ?_
    try simp only [Act.put, zA, zB, zC]
    refine wpAnyZ_oneL (i := 14) (by kernel_rfl) rfl (fun K hK => ?_)
    rw [if_pos (by rfl)]
    refine wp_build4M tEff (.tmp 36) (.tmp 41) (.tmp 45) (.tmp 49) rfl _ _ _ _ rfl rfl rfl rfl #[.int .i64 1, .int .i64 0, .slice ao nr cap, .slice ao2 no cap2, .slice tao x.tests.length tcap, .string ch, .string (lg.extract 0 (min (lg.size : Int) 1048576).toNat), .int .i64 x.time, .slice sao x.saves.length scap] (Tryz.built_eff _ _ _ _ _ _ _ _ _ _ _ _ _ _ _ _ _) ?_
    refine hK.out _ _ (fun _ => HS6.out _ HDR6.out) (fun hHeld => ?_)
    replace hHeld := hHeld (by decide)
    clear hK K
    try simp only [Act.put, zA, zB, zC]
    refine wpAnyZ_oneL (i := 15) (by kernel_rfl) rfl (fun K hK => ?_)
    rw [if_pos (by rfl)]
    refine wp_store_rowM tEff _ _ rfl w.heap.size rfl tEff _ HRB.out (.agg #[.int .i64 1, .int .i64 0, .slice ao nr cap, .slice ao2 no cap2, .slice tao x.tests.length tcap, .string ch, .string (lg.extract 0 (min (lg.size : Int) 1048576).toNat), .int .i64 x.time, .slice sao x.saves.length scap]) rfl (by kernel_rfl) rfl rfl ?_
    intro w9 hw9
    have HW9 := Lib.hid hw9
    have HRB9 : Hid (w9.heap[w.heap.size]? = some (.cells #[.int .i64 1, .int .i64 0, .slice ao nr cap, .slice ao2 no cap2, .slice tao x.tests.length tcap, .string ch, .string (lg.extract 0 (min (lg.size : Int) 1048576).toNat), .int .i64 x.time, .slice sao x.saves.length scap] tEff (0, 0))) := hw9.at_
    clear hw9
    refine hK.out _ _ (fun h => absurd h (by decide)) (fun _ => ?_)
    clear hK K
    try simp only [Act.put]
    refine wpAnyZ_done (by kernel_rfl) ?_ _
    clear hHeld
    have KT9 : ETst.Own 135 (xb + 1) noB w9 x.tests (.slice tao x.tests.length tcap) := own_keep HKT.out (Nat.le_of_eq HW9.out.size.symm) fun b e => HW9.out.block b fun eb => own_ne HKT.out HRB.out (by decide) (by rw [← eb]; exact e)
    have KS9 : EEnt.Own 76 (xb + 1) noB w9 x.saves (.slice sao x.saves.length scap) := own_keep HKS.out (Nat.le_of_eq HW9.out.size.symm) fun b e => HW9.out.block b fun eb => own_ne HKS.out HRB.out (by decide) (by rw [← eb]; exact e)
    have HEF : Hid (EffAt (fun b => xb < b) w9 (effectF x 0) (.agg #[.int .i64 1, .int .i64 0, .slice ao nr cap, .slice ao2 no cap2, .slice tao x.tests.length tcap, .string ch, .string (lg.extract 0 (min (lg.size : Int) 1048576).toNat), .int .i64 x.time, .slice sao x.saves.length scap])) := by
      unfold Hid
      rw [HE.out]
      exact ⟨_, _, _, _, _, rfl, by rw [bs_cut _ _ HM.out, HLG.out], (HR1.out.keep (Nat.le_of_eq HW9.out.size.symm) fun b hb _ => HW9.out.block b (by have := hb.1; omega)).mono fun b hb => by have := hb.1; omega,
        (HR2.out.keep (Nat.le_of_eq HW9.out.size.symm) fun b hb _ => HW9.out.block b (by have := hb.1; omega)).mono fun b hb => by have := hb.1; omega, KT9.row (fun _ h => h.elim) fun _ h => h, KS9.row (fun _ h => h.elim) fun _ h => h⟩
    have HB9 : Hid (Below xb w w9) := HB8.out.trans ((HDR6.out.mono (Nat.le_of_lt zx8)).trans (HW9.out.below (Nat.le_of_lt hxl)))
    clear KT9 KS9
    go_wp2_with fail
    exact bodyPost_ret (results_row1 rfl _ _ w.heap.size tEff _ (0, 0) _ rfl HRB9.out Tryz.underlying54 rfl (by kernel_rfl)) rfl (by exact ⟨_, rfl, HEF.out, HB9.out⟩)
  · have e0 : ((z : Int) == 0) = false := by simp [hz]
    have HE : Hid (effectF x z = ⟨2, z, sortN nmO x.reads, [], x.tests, ByteArray.empty, x.log.take 1048576, x.time, x.saves⟩) := by
      unfold Hid effectF
      rw [if_neg hz, if_neg hz, if_neg hz]
    have g0 : wc.cell? ⟨g, 0, none⟩ = some (.int .i64 1) := cell_of_blk HG.out 0
    have gf : wc.frozen? ⟨g, 0, none⟩ = false := free_of_blk HG.out 0
    have hw8 := wrote_setCell HG.out 0 (.int .i64 2)
    have HW8 := Lib.hid hw8
    clear hw8 hz HS3 HDR3 SO
    go_upto_region 5 with fail
    obtain ⟨w7, hw7⟩ : ∃ W, wc.setCell ⟨g, 0, none⟩ (.int .i64 2) = W := ⟨_, rfl⟩
    rw [hw7] at HW8
    rw [hw7]
    have HB17 : Hid (Below w1.heap.size w1 w7) := HB3.out.trans (HW8.out.below hg)
    have HG8 : Hid (w7.heap[g]? = some (.cells #[.int .i64 2, .int .i64 z, .slice ao nr cap, .slice none 0 0, .slice tao x.tests.length tcap, .string ⟨#[]⟩] tRes (0, 0))) := HW8.out.at_
    have HROW8 : Hid (EOut.Row (fun b => w1.heap.size ≤ b ∧ b ≠ g) w7 [] (.slice none 0 0)) := ElemK.Row.nil
    have HROWI : Hid (EOut.Row (fun b => w1.heap.size ≤ b ∧ b ≠ g) w7 (sortN nmO x.reads) (.slice ao nr cap)) := HROW.out.keep (Nat.le_of_eq HW8.out.size.symm) fun b hb _ => HW8.out.block b hb.2
    clear hw7 g0 gf HW8 HROW HG
    have hx7 := HX1.out.grow HB17.out
    have HX7 := Lib.hid hx7
    have STR := Lib.hid (bstring_any xb cs x.log l w7 hx7.blk hx7.c51 hx7.log HF.out.lg)
    clear hx7 HX1 HX3 HB3
    go_wp2_with fail
    refine STR.out.mono ?_
    rintro e w8 ⟨rfl, hk⟩
    have HK8 := Lib.hid hk
    obtain ⟨lg, hlg⟩ : ∃ lg : ByteArray, (⟨x.log.toArray⟩ : ByteArray) = lg := ⟨_, rfl⟩
    rw [hlg]
    have HLG : Hid (bs lg = x.log) := by unfold Hid; rw [← hlg]
    have z1g : w.heap.size < g := by omega
    have zg7 : g < w7.heap.size := (Array.getElem?_eq_some_iff.1 HG8.out).1
    have HG9 : Hid (w8.heap[g]? = some (.cells #[.int .i64 2, .int .i64 z, .slice ao nr cap, (.slice none 0 0), .slice tao x.tests.length tcap, .string ⟨#[]⟩] tRes (0, 0))) := (hk.block g zg7 (fun e => by have := HLL.out _ e; omega)).trans HG8.out
    obtain ⟨kx, kt, ks⟩ := HX7.out.kept1 hk
    have HKX := Lib.hid kx
    have HKT := Lib.hid kt
    have HKS := Lib.hid ks
    have HRB : Hid (w8.heap[w.heap.size]? = some (.cells #[.int .i64 0, .int .i64 0, .slice none 0 0, .slice none 0 0, .slice none 0 0, .string ⟨#[]⟩, .string ⟨#[]⟩, .int .i64 0, .slice none 0 0] tEff (0, 0))) := (hk.block _ (Nat.lt_of_lt_of_le z1 HB17.out.size) (fun e => by have := HLL.out _ e; omega)).trans ((HB17.out.block _ z1).trans HK1.out)
    have HR1 : Hid (EOut.Row (fun b => w1.heap.size ≤ b ∧ b ≠ g) w8 (sortN nmO x.reads) (.slice ao nr cap)) := HROWI.out.keep hk.size fun b hb hs => hk.block b hs (fun e => by have := HLL.out _ e; omega)
    have HR2 : Hid (EOut.Row (fun b => w1.heap.size ≤ b ∧ b ≠ g) w8 [] (.slice none 0 0)) := HROW8.out.keep hk.size fun b hb hs => hk.block b hs (fun e => by have := HLL.out _ e; omega)
    have HB8 : Hid (Below xb w w8) := (HB1.out.mono (Nat.le_of_lt hxl)).trans ((HB17.out.mono (Nat.le_of_lt (Nat.lt_trans hxl z1))).trans ⟨hk.os, hk.tape, hk.output, hk.size, fun k hkk => hk.block k (by have := HB17.out.size; omega) (fun e => by have := (HLW.out.lt _ e).1; omega)⟩)
    have k49 : cs[49]? = some (.int .i64 x.time) := HX7.out.c49
    have k55 : cs[55]? = some (.slice sao x.saves.length scap) := HX7.out.c55
    have zx8 : xb < w8.heap.size := (Array.getElem?_eq_some_iff.1 kx).1
    have zg8 : g < w8.heap.size := (Array.getElem?_eq_some_iff.1 HG9.out).1
    have HS6 : Hid (∀ W : World, Below w8.heap.size w8 W → W.cell? ⟨g, 0, none⟩ = some (.int .i64 2) ∧ W.cell? ⟨g, 1, none⟩ = some (.int .i64 z) ∧ W.cell? ⟨g, 2, none⟩ = some (.slice ao nr cap) ∧ W.cell? ⟨g, 3, none⟩ = some (.slice none 0 0) ∧ W.cell? ⟨g, 4, none⟩ = some (.slice tao x.tests.length tcap) ∧ W.cell? ⟨g, 5, none⟩ = some (.string ⟨#[]⟩) ∧ W.cell? ⟨xb, 49, none⟩ = some (.int .i64 x.time) ∧ W.cell? ⟨xb, 55, none⟩ = some (.slice sao x.saves.length scap)) := fun W hb =>
      have q := (hb.block g zg8).trans HG9.out
      have qx := (hb.block xb zx8).trans HKX.out
      ⟨cell_of_blk q 0, cell_of_blk q 1, cell_of_blk q 2, cell_of_blk q 3, cell_of_blk q 4, cell_of_blk q 5, (cell_of_blk qx 49).trans k49, (cell_of_blk qx 55).trans k55⟩
    have HDR6 : Hid (Below w8.heap.size w8 w8.drew) := (Below.refl _ _).drew
    have HLN : Hid (lg.size = x.log.length) := by unfold Hid; rw [← hlg]; exact List.size_toArray
    have hlgs : lg.size ≤ 140737488355328 := by rw [HLN.out]; exact HF.out.lg
    clear hk kx kt ks STR HG8 HROWI HROW8 HX7 hlg k49 k55 HLL HLW
    have hm1 : (0 : Int) ≤ min (lg.size : Int) 1048576 := by omega
    have hm2 : min (lg.size : Int) 1048576 ≤ (lg.size : Int) := by omega
    have HM : Hid ((min (lg.size : Int) 1048576).toNat = min lg.size 1048576) := by unfold Hid; omega
    clear HLN hlgs
    go_upto_region 6 with fail
    refine wp_region_Z (S := fun W : World => W.cell? ⟨g, 0, none⟩ = some (.int .i64 2) ∧ W.cell? ⟨g, 1, none⟩ = some (.int .i64 z) ∧ W.cell? ⟨g, 2, none⟩ = some (.slice ao nr cap) ∧ W.cell? ⟨g, 3, none⟩ = some (.slice none 0 0) ∧ W.cell? ⟨g, 4, none⟩ = some (.slice tao x.tests.length tcap) ∧ W.cell? ⟨g, 5, none⟩ = some (.string ⟨#[]⟩) ∧ W.cell? ⟨xb, 49, none⟩ = some (.int .i64 x.time) ∧ W.cell? ⟨xb, 55, none⟩ = some (.slice sao x.saves.length scap)) 15 (by kernel_rfl) (HS6.out _ HDR6.out) (fun hHeld => ?_)
    refine ztk 0 ?_
    try simp only [Act.put, zA, zB, zC]
    refine ztk 1 ?_
    try simp only [Act.put, zA, zB, zC]
    refine ztk 2 ?_
    try simp only [Act.put, zA, zB, zC]
    refine ztk 3 ?_
    try simp only [Act.put, zA, zB, zC]
    refine ztk 4 ?_
    try simp only [Act.put, zA, zB, zC]
    refine ztk 5 ?_
    try simp only [Act.put, zA, zB, zC]
    refine ztk 6 ?_
    try simp only [Act.put, zA, zB, zC]
    refine ztk 7 ?_
    try simp only [Act.put, zA, zB, zC]
    refine ztk 8 ?_
    try simp only [Act.put, zA, zB, zC]
    refine ztk 9 ?_
    try simp only [Act.put, zA, zB, zC]
    refine ztk 10 ?_
    try simp only [Act.put, zA, zB, zC]
    refine ztk 11 ?_
    try simp only [Act.put, zA, zB, zC]
    refine ztk 12 ?_
    try simp only [Act.put, zA, zB, zC]
    refine ztk 13 ?_
    try simp only [Act.put, zA, zB, zC]
    refine wpAnyZ_oneL (i := 14) (by kernel_rfl) rfl (fun K hK => ?_)
    rw [if_pos (by rfl)]
    refine wp_build4M tEff (.tmp 36) (.tmp 41) (.tmp 45) (.tmp 49) rfl _ _ _ _ rfl rfl rfl rfl #[.int .i64 2, .int .i64 z, .slice ao nr cap, .slice none 0 0, .slice tao x.tests.length tcap, .string ⟨#[]⟩, .string (lg.extract 0 (min (lg.size : Int) 1048576).toNat), .int .i64 x.time, .slice sao x.saves.length scap] (Tryz.built_eff _ _ _ _ _ _ _ _ _ _ _ _ _ _ _ _ _) ?_
    refine hK.out _ _ (fun _ => HS6.out _ HDR6.out) (fun hHeld => ?_)
    replace hHeld := hHeld (by decide)
    clear hK K
    try simp only [Act.put, zA, zB, zC]
    refine wpAnyZ_oneL (i := 15) (by kernel_rfl) rfl (fun K hK => ?_)
    rw [if_pos (by rfl)]
    refine wp_store_rowM tEff _ _ rfl w.heap.size rfl tEff _ HRB.out (.agg #[.int .i64 2, .int .i64 z, .slice ao nr cap, .slice none 0 0, .slice tao x.tests.length tcap, .string ⟨#[]⟩, .string (lg.extract 0 (min (lg.size : Int) 1048576).toNat), .int .i64 x.time, .slice sao x.saves.length scap]) rfl (by kernel_rfl) rfl rfl ?_
    intro w9 hw9
    have HW9 := Lib.hid hw9
    have HRB9 : Hid (w9.heap[w.heap.size]? = some (.cells #[.int .i64 2, .int .i64 z, .slice ao nr cap, .slice none 0 0, .slice tao x.tests.length tcap, .string ⟨#[]⟩, .string (lg.extract 0 (min (lg.size : Int) 1048576).toNat), .int .i64 x.time, .slice sao x.saves.length scap] tEff (0, 0))) := hw9.at_
    clear hw9
    refine hK.out _ _ (fun h => absurd h (by decide)) (fun _ => ?_)
    clear hK K
    try simp only [Act.put]
    refine wpAnyZ_done (by kernel_rfl) ?_ _
    clear hHeld
    have KT9 : ETst.Own 135 (xb + 1) noB w9 x.tests (.slice tao x.tests.length tcap) := own_keep HKT.out (Nat.le_of_eq HW9.out.size.symm) fun b e => HW9.out.block b fun eb => own_ne HKT.out HRB.out (by decide) (by rw [← eb]; exact e)
    have KS9 : EEnt.Own 76 (xb + 1) noB w9 x.saves (.slice sao x.saves.length scap) := own_keep HKS.out (Nat.le_of_eq HW9.out.size.symm) fun b e => HW9.out.block b fun eb => own_ne HKS.out HRB.out (by decide) (by rw [← eb]; exact e)
    have HEF : Hid (EffAt (fun b => xb < b) w9 (effectF x z) (.agg #[.int .i64 2, .int .i64 z, .slice ao nr cap, .slice none 0 0, .slice tao x.tests.length tcap, .string ⟨#[]⟩, .string (lg.extract 0 (min (lg.size : Int) 1048576).toNat), .int .i64 x.time, .slice sao x.saves.length scap])) := by
      unfold Hid
      rw [HE.out]
      exact ⟨_, _, _, _, _, rfl, by rw [bs_cut _ _ HM.out, HLG.out], (HR1.out.keep (Nat.le_of_eq HW9.out.size.symm) fun b hb _ => HW9.out.block b (by have := hb.1; omega)).mono fun b hb => by have := hb.1; omega,
        (HR2.out.keep (Nat.le_of_eq HW9.out.size.symm) fun b hb _ => HW9.out.block b (by have := hb.1; omega)).mono fun b hb => by have := hb.1; omega, KT9.row (fun _ h => h.elim) fun _ h => h, KS9.row (fun _ h => h.elim) fun _ h => h⟩
    have HB9 : Hid (Below xb w w9) := HB8.out.trans ((HDR6.out.mono (Nat.le_of_lt zx8)).trans (HW9.out.below (Nat.le_of_lt hxl)))
    clear KT9 KS9
    go_wp2_with fail
    exact bodyPost_ret (results_row1 rfl _ _ w.heap.size tEff _ (0, 0) _ rfl HRB9.out Tryz.underlying54 rfl (by kernel_rfl)) rfl (by exact ⟨_, rfl, HEF.out, HB9.out⟩)
end Go.Proofs.YtghahghbahcpfaaGreatDoor
