/- The execution in memory; mix. -/
import Derived.Test.YtghahghbahcpfaaGreatDoorVs2
import Derived.Test.YtghahghbahcpfaaGreatDoorVa2
namespace Go.Proofs.YtghahghbahcpfaaGreatDoor
open Go.RowKit

abbrev noB : Nat → Prop := fun _ => False
abbrev tOut : TypeId := 69
/-- outputs in a row of their own, in a block of their type -/
structure OutAt (xb : Nat) (w : World) (L : List OutM) (v : Value) : Prop where
  row : EOut.Row (fun b => xb < b) w L v
  ty : ∀ b, v.ownBlock = some b → ∃ cur fr, w.heap[b]? = some (.cells cur tOut fr)
theorem OutAt.keep {xb : Nat} {w w1 : World} {L : List OutM} {v : Value} (h : OutAt xb w L v) (hs : w.heap.size ≤ w1.heap.size) (hb : ∀ b, v.ownBlock = some b → w1.heap[b]? = w.heap[b]?) : OutAt xb w1 L v := by
  refine ⟨?_, fun b e => by obtain ⟨cur, fr, q⟩ := h.ty b e; exact ⟨cur, fr, (hb b e).trans q⟩⟩
  rcases h.row with ⟨ao, cap, e1, e2⟩ | ⟨bl, off, cap, e, h2, h3, h4, h5⟩
  · exact .inl ⟨ao, cap, e1, e2⟩
  · refine .inr ⟨bl, off, cap, e, h2, Nat.lt_of_lt_of_le h3 hs, h4, fun k hk => ?_⟩
    obtain ⟨cs, c1, c2⟩ := h5 k hk
    exact ⟨cs, fun j u hu => (World.cell?_of_block (a := ⟨bl, off + k * EOut.sz + j, none⟩) (hb bl (by rw [e]; rfl))).trans (c1 j u hu), c2⟩
theorem OutAt.grow {xb : Nat} {w w1 : World} {L : List OutM} {v : Value} (h : OutAt xb w L v) (hb : Below w.heap.size w w1) : OutAt xb w1 L v :=
  h.keep hb.size fun b e => by obtain ⟨cur, fr, q⟩ := h.ty b e; exact hb.block b (Array.getElem?_eq_some_iff.1 q).1
theorem OutAt.ne {xb b : Nat} {w : World} {L : List OutM} {v : Value} {cur : Array Value} {t : TypeId} {fr : Nat × Nat} (h : OutAt xb w L v) (hb : w.heap[b]? = some (.cells cur t fr)) (ht : t ≠ tOut) : v.ownBlock ≠ some b := fun e => by
  obtain ⟨cur2, fr2, q⟩ := h.ty b e
  rw [hb] at q
  injection q with q
  injection q with _ q _
  exact ht q
theorem ElemK.Own.mono' {w : World} {L : List OutM} {v : Value} {base : Nat} {B : Nat → Prop} {e : TypeId} (h : EOut.Own e base B w L v) : EOut.Own e base noB w L v := by
  obtain ⟨css, h1, h2, h3⟩ := h
  exact ⟨css, h1, h2, h3⟩
theorem OutAt.of_own {xb : Nat} {w : World} {L : List OutM} {v : Value} {base : Nat} {B : Nat → Prop} (h : EOut.Own tOut base B w L v) (hb : xb < base) : OutAt xb w L v := by
  refine ⟨(h.mono' : EOut.Own tOut base noB w L v).row (fun b hb => hb.elim) (fun b h1 => Nat.lt_of_lt_of_le hb h1), fun b e => ?_⟩
  obtain ⟨css, _, _, h3⟩ := h
  rcases h3.2 with ⟨rfl, _⟩ | ⟨g, cap, cur, rfl, _, hg, _⟩
  · cases e
  · have e : g = b := Option.some.inj e
    subst e
    exact ⟨cur, _, hg⟩
/-- an execution of the block xb: c are the cells of its job and its view -/
structure XAt (xb : Nat) (c : Nat → Value) (x : StM) (cs : Array Value) (p l r o t s : Value) (w : World) : Prop where
  blk : w.heap[xb]? = some (.cells cs tX (0, 0))
  size : cs.size = 57
  jv : ∀ k, k < 48 → cs[k]? = some (c k)
  c48 : cs[48]? = some (.int .u64 (x.acc : Nat))
  acc : x.acc < 18446744073709551616
  c49 : cs[49]? = some (.int .i64 x.time)
  time : i64R x.time
  c50 : cs[50]? = some p
  bld : p = .pointer none ∨ p = bP xb
  c51 : cs[51]? = some l
  log : LogOwn xb x.log l w
  c52 : cs[52]? = some r
  reads : OutAt xb w x.reads r
  c53 : cs[53]? = some o
  outs : OutAt xb w x.outs o
  c54 : cs[54]? = some t
  tests : ETst.Own 135 (xb + 1) noB w x.tests t
  c55 : cs[55]? = some s
  saves : EEnt.Own 76 (xb + 1) noB w x.saves s
  c56 : cs[56]? = some (.string x.child)
def XSt (xb : Nat) (c : Nat → Value) (x : StM) (w : World) : Prop := ∃ cs p l r o t s, XAt xb c x cs p l r o t s w
section
variable {xb : Nat} {c : Nat → Value} {x : StM} {cs : Array Value} {p l r o t s : Value} {w w1 : World}
theorem XAt.grow (h : XAt xb c x cs p l r o t s w) (hb : Below w.heap.size w w1) : XAt xb c x cs p l r o t s w1 :=
  { h with blk := (hb.block _ (Array.getElem?_eq_some_iff.1 h.blk).1).trans h.blk, log := ownsRow_below h.log hb, reads := h.reads.grow hb, outs := h.outs.grow hb, tests := h.tests.below hb, saves := h.saves.below hb }
theorem XSt.grow (h : XSt xb c x w) (hb : Below w.heap.size w w1) : XSt xb c x w1 := by
  obtain ⟨cs, p, l, r, o, t, s, h⟩ := h
  exact ⟨cs, p, l, r, o, t, s, h.grow hb⟩
theorem XAt.lt (h : XAt xb c x cs p l r o t s w) : xb < w.heap.size := (Array.getElem?_eq_some_iff.1 h.blk).1
theorem XAt.cell (h : XAt xb c x cs p l r o t s w) {k : Nat} (hk : k < 48) : w.cell? ⟨xb, k, none⟩ = some (c k) := (cell_of_blk h.blk k).trans (h.jv k hk)
theorem XSt.cell (h : XSt xb c x w) {k : Nat} (hk : k < 48) : w.cell? ⟨xb, k, none⟩ = some (c k) := by
  obtain ⟨cs, p, l, r, o, t, s, h⟩ := h
  exact h.cell hk
theorem XSt.lt (h : XSt xb c x w) : xb < w.heap.size := by
  obtain ⟨cs, p, l, r, o, t, s, h⟩ := h
  exact h.lt
theorem own_xb {α : Type} {E : ElemK α} {e : TypeId} {L : List α} {v : Value} (h : E.Own e (xb + 1) noB w L v) : v.ownBlock ≠ some xb := fun e => by have := (h.low _ e).1; omega
theorem own_store {α : Type} {E : ElemK α} {e : TypeId} {L : List α} {v : Value} (h : E.Own e (xb + 1) noB w L v) {ob : Obj} (hw : Wrote xb ob w w1) : E.Own e (xb + 1) noB w1 L v := h.wrote hw (own_xb h) (fun _ h => h.elim)
theorem out_store {L : List OutM} {v : Value} (h : OutAt xb w L v) {cur : Array Value} (hb : w.heap[xb]? = some (.cells cur tX (0, 0))) {ob : Obj} (hw : Wrote xb ob w w1) : OutAt xb w1 L v :=
  h.keep (Nat.le_of_eq hw.size.symm) fun b e => hw.block b fun eb => h.ne hb (by decide) (by rw [← eb]; exact e)
/-- a store of one cell that is no row -/
theorem XAt.put (h : XAt xb c x cs p l r o t s w) (k : Nat) (v : Value) (x' : StM) (hk : k = 48 ∨ k = 49 ∨ k = 56)
    (h48 : (if k = 48 then some v else some (.int .u64 (x.acc : Nat))) = some (Value.int .u64 (x'.acc : Nat))) (ha : x'.acc < 18446744073709551616)
    (h49 : (if k = 49 then some v else some (.int .i64 x.time)) = some (Value.int .i64 x'.time)) (ht : i64R x'.time)
    (h56 : (if k = 56 then some v else some (.string x.child)) = some (Value.string x'.child))
    (e : x'.log = x.log ∧ x'.reads = x.reads ∧ x'.outs = x.outs ∧ x'.tests = x.tests ∧ x'.saves = x.saves) : XAt xb c x' (cs.setIfInBounds k v) p l r o t s (w.setCell ⟨xb, k, none⟩ v) ∧ Below xb w (w.setCell ⟨xb, k, none⟩ v) := by
  obtain ⟨e1, e2, e3, e4, e5⟩ := e
  have hw := wrote_setCell h.blk k v
  have hs := h.size
  have g : ∀ j, j ≠ k → (cs.setIfInBounds k v)[j]? = cs[j]? := fun j hj => Array.getElem?_setIfInBounds_ne (fun e => hj e.symm)
  have gk : (cs.setIfInBounds k v)[k]? = some v := by rw [Array.getElem?_setIfInBounds, if_pos rfl, if_pos (by omega)]
  refine ⟨⟨hw.at_, by rw [Array.size_setIfInBounds]; exact hs, fun j hj => by rw [g j (by omega)]; exact h.jv j hj, ?_, ha, ?_, ht, by rw [g 50 (by omega)]; exact h.c50, h.bld, by rw [g 51 (by omega)]; exact h.c51, by rw [e1]; exact ownsRow_wrote h.log hw (Nat.lt_succ_self _), by rw [g 52 (by omega)]; exact h.c52, by rw [e2]; exact out_store h.reads h.blk hw, by rw [g 53 (by omega)]; exact h.c53, by rw [e3]; exact out_store h.outs h.blk hw, by rw [g 54 (by omega)]; exact h.c54, by rw [e4]; exact own_store h.tests hw, by rw [g 55 (by omega)]; exact h.c55, by rw [e5]; exact own_store h.saves hw, ?_⟩, hw.below (Nat.le_refl _)⟩
  · by_cases hk : k = 48
    · subst hk; rw [gk]; rw [if_pos rfl] at h48; exact h48
    · rw [g 48 (fun e => hk e.symm), h.c48]; rw [if_neg hk] at h48; exact h48
  · by_cases hk : k = 49
    · subst hk; rw [gk]; rw [if_pos rfl] at h49; exact h49
    · rw [g 49 (fun e => hk e.symm), h.c49]; rw [if_neg hk] at h49; exact h49
  · by_cases hk : k = 56
    · subst hk; rw [gk]; rw [if_pos rfl] at h56; exact h56
    · rw [g 56 (fun e => hk e.symm), h.c56]; rw [if_neg hk] at h56; exact h56
end
/-- one block has turned, blocks may have come -/
structure Only (b : Nat) (w w' : World) : Prop where
  os : w'.os = w.os
  tape : w'.tape = w.tape
  output : w'.output = w.output
  size : w.heap.size ≤ w'.heap.size
  block : ∀ k, k < w.heap.size → k ≠ b → w'.heap[k]? = w.heap[k]?
theorem Only.below {b : Nat} {w w' : World} (h : Only b w w') (hb : b ≤ w.heap.size) : Below b w w' := ⟨h.os, h.tape, h.output, h.size, fun k hk => h.block k (by omega) (by omega)⟩
theorem Only.of {b : Nat} {w w1 w' : World} {o : Obj} (h : Below w.heap.size w w1) (hw : Wrote b o w1 w') : Only b w w' :=
  ⟨hw.os.trans h.os, hw.tape.trans h.tape, hw.output.trans h.output, by rw [hw.size]; exact h.size, fun k hk hkb => (hw.block k hkb).trans (h.block k hk)⟩
theorem Only.pre {b : Nat} {w w1 w' : World} (h : Below w.heap.size w w1) (k : Only b w1 w') : Only b w w' :=
  ⟨k.os.trans h.os, k.tape.trans h.tape, k.output.trans h.output, Nat.le_trans h.size k.size, fun j hj hjb => (k.block j (Nat.lt_of_lt_of_le hj h.size) hjb).trans (h.block j hj)⟩
theorem Tryz.infoDig : (Tryz.prog.info? 58).map (fun i => (i.zero, i.size, i.bytes)) = some (some (.int .u64 0), 1, 8) := by kernel_rfl
theorem Tryz.infoDig' : ∃ i, Tryz.prog.info? 58 = some i ∧ i.zero = some (.int .u64 0) ∧ i.size = 1 ∧ i.bytes = 8 := info_parts Tryz.infoDig
set_option maxRecDepth 100000 in
set_option maxHeartbeats 3200000 in
theorem xmix_any (xb : Nat) (c : Nat → Value) (x : StM) (lb : ByteArray) (ds : List Nat) (v : Value) (B : Nat → Prop) (hlb : lb.size ≤ 1000) (hn : ds.length ≤ 1000) (hd : ∀ d ∈ ds, d < 18446744073709551616) (w : World) (hx : XSt xb c x w) (h : EDig.Row B w ds v) :
    Calls Tryz.prog 128 #[.pointer (some ⟨xb, 0, none⟩), .string lb, v] w fun e w' => e = .returned (.tuple #[]) ∧ XSt xb c { x with acc := ofN lb.data.toList (x.acc :: ds) } w' ∧ Only xb w w' := by
  obtain ⟨cs, p, l, r, o, t, s, hx⟩ := hx
  obtain ⟨ao, cap, rfl⟩ := h.form
  have HX := Lib.hid hx
  have c48 : w.cell? ⟨xb, 48, none⟩ = some (.int .u64 (x.acc : Nat)) := (cell_of_blk hx.blk 48).trans hx.c48
  have HD : Hid (∀ d ∈ x.acc :: ds, d < 18446744073709551616) := fun d hdd => by
    rcases List.mem_cons.1 hdd with rfl | hdd
    · exact hx.acc
    · exact hd d hdd
  obtain ⟨iD, hiD, hzD, hnD, hyD⟩ := Tryz.infoDig'
  have HI := Lib.hid hiD
  have hk1 : (w.alloc (.cells #[.int .u64 (x.acc : Nat)] 58)).heap[w.heap.size]? = some (.cells #[.int .u64 (x.acc : Nat)] 58 (0, 0)) := hp_new rfl
  have HO1 : Hid (EDig.Own 58 w.heap.size (fun _ => True) (w.alloc (.cells #[.int .u64 (x.acc : Nat)] 58)) [x.acc] (.slice (some ⟨w.heap.size, 0, none⟩) 1 1)) :=
    ⟨[[.int .u64 (x.acc : Nat)]], rfl, fun k h1 h2 => by
      have : k = 0 := by simpa using h1
      subst this; rfl, ⟨rfl, .inr ⟨w.heap.size, 1, _, rfl, Nat.le_refl _, hk1, Nat.le_refl _, by decide, rfl, rfl⟩⟩⟩
  have HM : Hid (EDig.Row (fun b => True ∧ (Value.slice (some ⟨w.heap.size, 0, none⟩) 1 1).ownBlock ≠ some b) (w.alloc (.cells #[.int .u64 (x.acc : Nat)] 58)) ds (.slice ao ds.length cap)) := by
    refine (h.lt.below ((Below.refl _ w).alloc (Nat.le_refl _) _)).mono fun b hb => ⟨trivial, fun e => ?_⟩
    have e : w.heap.size = b := Option.some.inj e
    omega
  clear hx h hd hiD hk1
  go_enter Tryz.func128, Tryz.ntmps128
  go_wp2_with (at_builtin; refine wpList_own_all (E := EDig) rfl _ _ 117 rfl w.heap.size 58 iD _ 8 Tryz.underlying117 HI.out hzD hnD hyD rfl [x.acc] _ rfl HO1.out ds ao cap HM.out rfl (by unfold maxLen; simp; omega) (by simp; omega) (by simp) ?_)
  intro v2 w2 hO2 hgr
  have HB2 : Hid (Below w.heap.size w w2) := ((Below.refl _ w).alloc (Nat.le_refl _) _).trans (below_grown hgr (by simp) (fun q e => by have e : w.heap.size = q := Option.some.inj e; omega))
  have HOF := Lib.hid (of_any lb (x.acc :: ds) v2 _ (by omega) (by simp; omega) HD.out w2 (hO2.row (B' := fun _ => True) (fun _ _ => trivial) (fun _ _ => trivial)))
  have HLT : Hid (ofN lb.data.toList (x.acc :: ds) < 18446744073709551616) := ofN_lt _ _
  clear hO2 hgr HO1 HM c48
  go_wp2_with fail
  refine HOF.out.mono ?_
  rintro e w3 ⟨rfl, hb⟩
  have HB3 := Lib.hid (HB2.out.trans (hb.mono HB2.out.size))
  clear hb HOF
  generalize hna : ofN lb.data.toList (x.acc :: ds) = na at *
  have HNA := Lib.hid hna
  clear hna
  have hx3 := HX.out.grow HB3.out
  have c48 : w3.cell? ⟨xb, 48, none⟩ = some (.int .u64 (x.acc : Nat)) := (cell_of_blk hx3.blk 48).trans hx3.c48
  have f48 := free_of_blk hx3.blk 48
  have HP := Lib.hid (hx3.put 48 (.int .u64 (na : Nat)) { x with acc := na } (Or.inl rfl) rfl HLT.out rfl hx3.time rfl ⟨rfl, rfl, rfl, rfl, rfl⟩)
  have HON := Lib.hid (Only.of HB3.out (wrote_setCell hx3.blk 48 (.int .u64 (na : Nat))))
  clear hx3
  go_wp2_with fail
  go_end0
  exact ⟨rfl, ⟨_, _, _, _, _, _, _, by rw [HNA.out]; exact HP.out.1⟩, HON.out⟩
end Go.Proofs.YtghahghbahcpfaaGreatDoor
/- The walks over slices.Clone at outputs and over put. -/
namespace Go.Proofs.YtghahghbahcpfaaGreatDoor
open Go.RowKit

theorem Tryz.infoOut : (Tryz.prog.info? tOut).map (fun i => (i.zero, i.size, i.bytes)) = some (some (.agg #[.string ⟨#[]⟩, .int .u64 0, .int .i64 0]), 3, 32) := by kernel_rfl
theorem Tryz.infoOut' : ∃ i, Tryz.prog.info? tOut = some i ∧ i.zero = some (.agg #[.string ⟨#[]⟩, .int .u64 0, .int .i64 0]) ∧ i.size = 3 ∧ i.bytes = 32 := info_parts Tryz.infoOut
set_option maxRecDepth 100000 in
set_option maxHeartbeats 1600000 in
theorem oclone_any (L : List OutM) (v : Value) (B : Nat → Prop) (hl : L.length ≤ 1000000) (w : World) (h : EOut.Row B w L v) :
    Calls Tryz.prog 94 #[v] w fun e w' => ∃ r, e = .returned r ∧ EOut.Own tOut w.heap.size noB w' L r ∧ Below w.heap.size w w' := by
  obtain ⟨ao, cap, rfl⟩ := h.form
  obtain ⟨iV, hiV, hzV, hnV, hyV⟩ := Tryz.infoOut'
  have HI := Lib.hid hiV
  have qq : ∀ (w : World) (a : Option Addr) (n c n' c' : Nat), (binOp .eql 40 (.slice a n c) (.slice none n' c')).run Tryz.prog w = .ok (.bool a.isNone) w := fun w a n c n' c' => Lib.run_eql_slice_nil w _ _ a n c n' c' Tryz.underlying40
  have HO1 : Hid (EOut.Own tOut w.heap.size (fun _ => True) (w.alloc (.cells #[] tOut)) [] (.slice (some ⟨w.heap.size, 0, none⟩) 0 0)) := ⟨[], rfl, fun k h => absurd h (Nat.not_lt_zero k), World.ownsRow_made w #[] 0 (Nat.le_refl _) (Nat.zero_le _) rfl⟩
  have HM : Hid (EOut.Row (fun b => True ∧ (Value.slice (some ⟨w.heap.size, 0, none⟩) 0 0).ownBlock ≠ some b) (w.alloc (.cells #[] tOut)) L (.slice ao L.length cap)) := by
    refine (h.lt.below ((Below.refl _ w).alloc (Nat.le_refl _) _)).mono fun b hb => ⟨trivial, fun e => ?_⟩
    have e : w.heap.size = b := Option.some.inj e
    omega
  have HNL : Hid (ao = none → L = []) := fun e => by
    rcases h with ⟨_, _, _, e2⟩ | ⟨b, off, c, e2, _⟩
    · exact e2
    · subst e; injection e2 with e3; cases e3
  clear h hiV
  go_enter Tryz.func94, Tryz.ntmps94
  cases ao with
  | none =>
    have h0 := HNL.out rfl
    subst h0
    go_wp2_with fail
    go_ret
    exact ⟨_, rfl, .nil, Below.refl _ _⟩
  | some ad =>
    go_wp2_with (at_builtin; refine wpList_own_all (E := EOut) rfl _ _ 40 rfl w.heap.size tOut iV _ 32 Tryz.underlying40 HI.out hzV hnV hyV rfl [] _ rfl HO1.out L (some ad) cap HM.out rfl (by unfold maxLen; simp; omega) (by simp; omega) (by simp) ?_)
    intro v' w3 hown hgrow
    have HOWN : Hid (EOut.Own tOut w.heap.size noB w3 L v') := (show EOut.Own tOut w.heap.size (fun _ => True) w3 L v' from hown).mono'
    have HBG : Hid (Below w.heap.size w w3) := ((Below.refl _ w).alloc (Nat.le_refl _) _).trans (below_grown hgrow (by simp) (fun q e => by have e : w.heap.size = q := Option.some.inj e; omega))
    clear hown hgrow HO1 HM
    go_wp2_with fail
    go_ret
    exact ⟨_, rfl, HOWN.out, HBG.out⟩
theorem clo_put (y x : OutM) (cb : Nat) (B : Nat → Prop) (cs : List Value) (w : World) (h : w.cell? ⟨cb, 0, none⟩ = some (.string x.name)) (hR : EOut.R B w y cs) :
    Calls Tryz.prog 131 (#[.agg cs.toArray] ++ #[.pointer (some ⟨cb, 0, none⟩)]) w fun e w' => e = .returned (.bool (decide (y.name = x.name))) ∧ Below w.heap.size w w' := by
  have hcs : cs = [.string y.name, .int .u64 (y.dig : Nat), .int .i64 y.size] := hR
  subst hcs
  obtain ⟨W1, hW1⟩ : ∃ W1, w.alloc (.cells #[.string y.name, .int .u64 (y.dig : Nat), .int .i64 y.size] tOut (0, 0)) = W1 := ⟨_, rfl⟩
  have hb1 : Below w.heap.size w W1 := by rw [← hW1]; exact (Below.refl _ w).alloc (Nat.le_refl _) _
  have c1 : W1.cell? ⟨cb, 0, none⟩ = some (.string x.name) := (hb1.cell (p := ⟨cb, 0, none⟩) (World.block_lt_of_cell? w _ h)).trans h
  have c0 : W1.cell? ⟨w.heap.size, 0, none⟩ = some (.string y.name) := by rw [← hW1, cell_of_blk (hp_new rfl)]; rfl
  have HB := Lib.hid hb1
  have HT := Lib.hid (tl_eq y.name x.name)
  clear hb1 h
  go_enter Tryz.func131, Tryz.ntmps131
  go_wp2_with fail
  go_ret
  exact ⟨ret_bool HT.out, HB.out⟩
theorem cloE_put : ∀ args w, (callFunc 131 args).run Tryz.prog w = .ok (.enter 131 args) w := enters_of Tryz.func131 (by kernel_rfl) rfl
theorem fstI_find {α : Type} {p : α → Bool} : ∀ L : List α, fstI p L = L.findIdx? p
  | [] => rfl
  | x :: l => by
    rw [fstI, List.findIdx?_cons, fstI_find l]
/-- one output stored over another one -/
theorem out_set {xb g cp i : Nat} {w w5 : World} {L : List OutM} {x : OutM} {cur : Array Value} (hrow : EOut.Row (fun _ => True) w L (.slice (some ⟨g, 0, none⟩) L.length cp)) (hxg : xb < g) (hn : L.length ≤ cp) (hi : i < L.length) (hg : w.heap[g]? = some (.cells cur tOut (0, 0))) (hs : cur.size = cp * 3)
    (hw : Wrote g (.cells (((cur.setIfInBounds (i * 3) (.string x.name)).setIfInBounds (i * 3 + 1) (.int .u64 (x.dig : Nat))).setIfInBounds (i * 3 + 2) (.int .i64 x.size)) tOut (0, 0)) w w5) : OutAt xb w5 (L.set i x) (.slice (some ⟨g, 0, none⟩) L.length cp) := by
  refine ⟨.inr ⟨g, 0, cp, by rw [List.length_set], hxg, ?_, by rw [List.length_set]; exact hn, fun k hk => ?_⟩, fun b e => ?_⟩
  · rw [hw.size]; exact (Array.getElem?_eq_some_iff.1 hg).1
  · rw [List.length_set] at hk
    have hc3 : k * 3 + 2 < cur.size := by omega
    by_cases hki : k = i
    · subst hki
      refine ⟨[.string x.name, .int .u64 (x.dig : Nat), .int .i64 x.size], fun j u hu => ?_, by rw [List.getElem_set_self]; rfl⟩
      have hj : j = 0 ∨ j = 1 ∨ j = 2 := by
        have := (List.getElem?_eq_some_iff.1 hu).1
        simp at this
        omega
      rw [show EOut.sz = 3 from rfl, Nat.zero_add, cell_of_blk hw.at_]
      rcases hj with rfl | rfl | rfl <;> simp at hu <;> subst hu <;> simp [Array.getElem?_setIfInBounds] <;> omega
    · obtain ⟨bl, off, cs, e, _, _, hc, hR⟩ := hrow.at (k := k) hk
      injection e with e
      injection e with e1 e2 _
      subst e1 e2
      refine ⟨cs, fun j u hu => ?_, by rw [List.getElem_set_ne (fun e => hki e.symm)]; exact hR⟩
      have hj : j < 3 := by
        have h1 := (List.getElem?_eq_some_iff.1 hu).1
        have h2 := EOut.len hR
        rw [h2] at h1
        exact h1
      have h3 := hc j u hu
      rw [show EOut.sz = 3 from rfl] at h3 ⊢
      rw [cell_of_blk hg] at h3
      rw [cell_of_blk hw.at_, Array.getElem?_setIfInBounds_ne (by omega), Array.getElem?_setIfInBounds_ne (by omega), Array.getElem?_setIfInBounds_ne (by omega)]
      exact h3
  · have e : g = b := Option.some.inj e
    subst e
    exact ⟨_, _, hw.at_⟩
set_option maxRecDepth 100000 in
set_option maxHeartbeats 3200000 in
theorem xput_any (xb : Nat) (L : List OutM) (v : Value) (x : OutM) (B : Nat → Prop) (hl : L.length ≤ 1000) (w : World) (hxb : xb < w.heap.size) (h : EOut.Row B w L v) :
    Calls Tryz.prog 91 #[v, .agg #[.string x.name, .int .u64 (x.dig : Nat), .int .i64 x.size]] w fun e w' => ∃ r, e = .returned r ∧ OutAt xb w' (putF L x) r ∧ Below w.heap.size w w' := by
  obtain ⟨ao, cap, rfl⟩ := h.form
  obtain ⟨w1, hw1⟩ : ∃ w1, w.alloc (.cells #[.string x.name, .int .u64 (x.dig : Nat), .int .i64 x.size] tOut (0, 0)) = w1 := ⟨_, rfl⟩
  have hk1 : w1.heap[w.heap.size]? = some (.cells #[.string x.name, .int .u64 (x.dig : Nat), .int .i64 x.size] tOut (0, 0)) := by rw [← hw1]; exact hp_new rfl
  have hz1 : w.heap.size < w1.heap.size := (Array.getElem?_eq_some_iff.1 hk1).1
  have hb1 : Below w.heap.size w w1 := by rw [← hw1]; exact (Below.refl _ w).alloc (Nat.le_refl _) _
  have HF : Hid (∀ W, Below w1.heap.size w1 W → W.cell? ⟨w.heap.size, 0, none⟩ = some (.string x.name) ∧ W.cell? ⟨w.heap.size, 1, none⟩ = some (.int .u64 (x.dig : Nat)) ∧ W.cell? ⟨w.heap.size, 2, none⟩ = some (.int .i64 x.size)) := fun W hb => by
    have q := (hb.block _ hz1).trans hk1
    exact ⟨cell_of_blk q 0, cell_of_blk q 1, cell_of_blk q 2⟩
  have IX := Lib.hid (ixf_o 131 #[.pointer (some ⟨w.heap.size, 0, none⟩)] (fun y => decide (y.name = x.name)) L _ B (by omega) w1 (h.below hb1) (fun k hk cs W hb hR => clo_put L[k] x w.heap.size B cs W (HF.out W hb).1 hR) cloE_put)
  have HR := Lib.hid (h.below hb1)
  have HB1 := Lib.hid hb1
  have HW1 := Lib.hid hw1
  have HXB : Hid (xb < w1.heap.size) := Nat.lt_of_lt_of_le hxb (Nat.le_of_lt hz1)
  obtain ⟨iV, hiV, hzV, hnV, hyV⟩ := Tryz.infoOut'
  have HI := Lib.hid hiV
  obtain ⟨q, hq⟩ : ∃ q, fstI (fun y => decide (y.name = x.name)) L = q := ⟨_, rfl⟩
  have HQ : Hid (L.findIdx? (fun y => decide (y.name = x.name)) = q) := by unfold Hid; rw [← fstI_find]; exact hq
  have HQ2 := Lib.hid hq
  rw [hq] at IX
  clear h hk1 hz1 hb1 hw1 hxb hiV hq
  go_enter Tryz.func91, Tryz.ntmps91
  go_upto_region 1 with fail
  rw [HW1.out]
  clear HW1
  go_wp2_with fail
  refine IX.out.mono ?_
  rintro e w2 ⟨rfl, hb⟩
  have HB2 := Lib.hid hb
  have CL := Lib.hid (oclone_any L _ _ (by omega) w2 (HR.out.below hb))
  clear hb IX HR
  go_wp2_with fail
  refine CL.out.mono ?_
  rintro e w3 ⟨r, rfl, hown, hb⟩
  have HO := Lib.hid hown
  have HB3 := Lib.hid (HB2.out.trans (hb.mono HB2.out.size))
  have HZ2 : Hid (w1.heap.size ≤ w2.heap.size) := HB2.out.size
  have HZ3 : Hid (w2.heap.size ≤ w3.heap.size) := hb.size
  have HB03 := Lib.hid (HB1.out.trans (HB3.out.mono HB1.out.size))
  obtain ⟨d0, d1, d2⟩ := HF.out w3 HB3.out
  clear hown hb CL HF
  cases q with
  | none =>
    have HP : Hid (putF L x = L ++ [x]) := by unfold Hid putF; rw [HQ.out]
    have hix : idxI none = -1 := rfl
    rw [hix]
    clear hix HQ HQ2
    have hO2 : EOut.Own tOut w2.heap.size noB (w3.alloc (.cells #[.string x.name, .int .u64 (x.dig : Nat), .int .i64 x.size] tOut)) L r := HO.out.below ((Below.refl _ w3).alloc (Nat.le_refl _) _)
    have HO2 := Lib.hid hO2
    clear hO2
    as_aux_lemma =>
    go_wp2_with (first
      | (refine wpList_build1 rfl 40 tOut (.tmp 15) rfl #[.string x.name, .int .u64 (x.dig : Nat), .int .i64 x.size] iV _ Tryz.underlying40 HI.out hzV 3 hnV (by decide) (by decide) rfl rfl ?_)
      | (refine wpList_own_push (E := EOut) rfl (.tmp 14) (.tmp 16) 40 rfl w2.heap.size tOut iV _ 32 Tryz.underlying40 HI.out hzV hnV hyV rfl L _ rfl HO2.out x [.string x.name, .int .u64 (x.dig : Nat), .int .i64 x.size] rfl w3.heap.size (0, 0) (hp_new rfl) rfl (by unfold maxLen; omega) (by omega) (by have := HZ3.out; simp; omega) ?_))
    intro v8 w8 hown hgrow hpu
    have HO8 : Hid (OutAt xb w8 (putF L x) v8) := by unfold Hid; rw [HP.out]; exact .of_own hown (Nat.lt_of_lt_of_le HXB.out HZ2.out)
    have HB8 : Hid (Below w.heap.size w w8) := (HB03.out.alloc HB03.out.size _).trans (below_grown hgrow (by have := HB03.out.size; simp; omega) (fun q e => by have := (HO2.out.low q e).1; have := HZ2.out; have := HB1.out.size; omega))
    clear hown hgrow hpu
    go_wp2_with fail
    go_ret
    exact ⟨_, rfl, HO8.out, HB8.out⟩
  | some i =>
    obtain ⟨hlt, _⟩ := fstI_at HQ2.out
    have HP : Hid (putF L x = L.set i x) := by unfold Hid putF; rw [HQ.out]
    have hix : idxI (some i) = (i : Int) := rfl
    rw [hix]
    clear hix HQ HQ2
    obtain ⟨css, hcl, hcR, h3⟩ := HO.out
    rcases h3.2 with ⟨rfl, h0⟩ | ⟨g, cp, cur, rfl, hbg, hg, hn, hm, hs, ht⟩
    · omega
    have hii : (i : Int) < (L.length : Int) := by omega
    have hi0 : (0 : Int) ≤ (i : Int) := by omega
    have hs3 : cur.size = cp * 3 := hs
    have y0 : w3.cell? ⟨g, i * 3, none⟩ = some (cur[i * 3]'(by omega)) := by rw [cell_of_blk hg, Array.getElem?_eq_getElem]
    have y1 : w3.cell? ⟨g, i * 3 + 1, none⟩ = some (cur[i * 3 + 1]'(by omega)) := by rw [cell_of_blk hg, Array.getElem?_eq_getElem]
    have y2 : w3.cell? ⟨g, i * 3 + 2, none⟩ = some (cur[i * 3 + 2]'(by omega)) := by rw [cell_of_blk hg, Array.getElem?_eq_getElem]
    have f0 := free_of_blk hg (i * 3)
    have f1 := free_of_blk hg (i * 3 + 1)
    have f2 := free_of_blk hg (i * 3 + 2)
    have w01 := wrote_setCell hg (i * 3) (.string x.name)
    have w12 := wrote_setCell w01.at_ (i * 3 + 1) (.int .u64 (x.dig : Nat))
    have w23 := wrote_setCell w12.at_ (i * 3 + 2) (.int .i64 x.size)
    have hw := w01.trans (w12.trans w23)
    have hO5 := out_set (xb := xb) (HO.out.row (B' := fun _ => True) (fun _ _ => trivial) (fun _ _ => trivial)) (Nat.lt_of_lt_of_le HXB.out (Nat.le_trans HZ2.out hbg)) hn hlt hg hs3 hw
    have HO5 := Lib.hid hO5
    have HB5 := Lib.hid (HB03.out.trans (hw.below (B := w.heap.size) (by have := HB1.out.size; have := HZ2.out; omega)))
    clear hO5 hw w01 w12 w23 hcR h3 ht HO
    as_aux_lemma =>
    go_wp2_with fail
    go_ret
    exact ⟨_, rfl, by rw [HP.out]; exact HO5.out, HB5.out⟩
end Go.Proofs.YtghahghbahcpfaaGreatDoor
/- The execution in memory: stores of rows, rows that grow. -/
namespace Go.Proofs.YtghahghbahcpfaaGreatDoor
open Go.RowKit

/-- the type of the block that a value lies in -/
def TyAt (w : World) (v : Value) (t : TypeId) : Prop := ∀ b, v.ownBlock = some b → ∃ cur fr, w.heap[b]? = some (.cells cur t fr)
theorem tyAt_owns {w : World} {base : Nat} {e : TypeId} {n sz : Nat} {v : Value} {xs : List Value} (h : w.ownsRow base e sz v n xs) : TyAt w v e := fun b eb => by
  rcases h.2 with ⟨rfl, _⟩ | ⟨g, cap, cur, rfl, _, hg, _⟩
  · cases eb
  · have eb : g = b := Option.some.inj eb
    subst eb
    exact ⟨_, _, hg⟩
theorem tyAt_ne {w : World} {v u : Value} {t1 t2 : TypeId} (h : TyAt w v t1) (k : TyAt w u t2) (ht : t1 ≠ t2) : v.ownBlock = none ∨ v.ownBlock ≠ u.ownBlock := by
  cases hv : v.ownBlock with
  | none => exact .inl rfl
  | some b =>
    refine .inr fun e => ?_
    obtain ⟨c1, f1, q1⟩ := h b hv
    obtain ⟨c2, f2, q2⟩ := k b e.symm
    rw [q1] at q2
    injection q2 with q2
    injection q2 with _ q2 _
    exact ht q2
section
variable {xb : Nat} {c : Nat → Value} {x : StM} {cs : Array Value} {p l r o t s : Value} {w w1 : World}
theorem XAt.tyL (h : XAt xb c x cs p l r o t s w) : TyAt w l 5 := tyAt_owns h.log
theorem XAt.tyT (h : XAt xb c x cs p l r o t s w) : TyAt w t 135 := tyAt_owns h.tests.choose_spec.2.2
theorem XAt.tyS (h : XAt xb c x cs p l r o t s w) : TyAt w s 76 := tyAt_owns h.saves.choose_spec.2.2
/-- a store of one row -/
theorem XAt.putRow (h : XAt xb c x cs p l r o t s w) (k : Nat) (v : Value) (hk : 52 ≤ k ∧ k ≤ 55) (x' : StM)
    (hs : x'.acc = x.acc ∧ x'.time = x.time ∧ x'.log = x.log ∧ x'.child = x.child)
    (hr : OutAt xb w x'.reads (if k = 52 then v else r)) (ho : OutAt xb w x'.outs (if k = 53 then v else o))
    (ht : ETst.Own 135 (xb + 1) noB w x'.tests (if k = 54 then v else t)) (hsv : EEnt.Own 76 (xb + 1) noB w x'.saves (if k = 55 then v else s)) :
    XAt xb c x' (cs.setIfInBounds k v) p l (if k = 52 then v else r) (if k = 53 then v else o) (if k = 54 then v else t) (if k = 55 then v else s) (w.setCell ⟨xb, k, none⟩ v) ∧ Below xb w (w.setCell ⟨xb, k, none⟩ v) := by
  obtain ⟨e1, e2, e3, e4⟩ := hs
  have hw := wrote_setCell h.blk k v
  have hsz := h.size
  have g : ∀ j, j ≠ k → (cs.setIfInBounds k v)[j]? = cs[j]? := fun j hj => Array.getElem?_setIfInBounds_ne (fun e => hj e.symm)
  have gk : (cs.setIfInBounds k v)[k]? = some v := by rw [Array.getElem?_setIfInBounds, if_pos rfl, if_pos (by omega)]
  have gc : ∀ (j : Nat) (u : Value), cs[j]? = some u → (cs.setIfInBounds k v)[j]? = some (if k = j then v else u) := fun j u hu => by
    by_cases e : k = j
    · subst e; rw [if_pos rfl]; exact gk
    · rw [if_neg e, g j (fun e2 => e e2.symm)]; exact hu
  refine ⟨⟨hw.at_, by rw [Array.size_setIfInBounds]; exact hsz, fun j hj => by rw [g j (by omega)]; exact h.jv j hj, by rw [g 48 (by omega), e1]; exact h.c48, by rw [e1]; exact h.acc, by rw [g 49 (by omega), e2]; exact h.c49, by rw [e2]; exact h.time, by rw [g 50 (by omega)]; exact h.c50, h.bld, by rw [g 51 (by omega)]; exact h.c51, by rw [e3]; exact ownsRow_wrote h.log hw (Nat.lt_succ_self _),
    gc 52 r h.c52, out_store hr h.blk hw, gc 53 o h.c53, out_store ho h.blk hw, gc 54 t h.c54, own_store ht hw, gc 55 s h.c55, own_store hsv hw, by rw [g 56 (by omega), e4]; exact h.c56⟩, hw.below (Nat.le_refl _)⟩
theorem out_kept {L : List OutM} {v : Value} {row : Option Nat} (h : OutAt xb w L v) (hg : w.grownBy w1 row) (hne : v.ownBlock = none ∨ v.ownBlock ≠ row) : OutAt xb w1 L v :=
  h.keep hg.size fun b e => hg.block b (by obtain ⟨_, _, q⟩ := h.ty b e; exact (Array.getElem?_eq_some_iff.1 q).1) (fun e2 => by
    rcases hne with h1 | h1
    · rw [h1] at e; cases e
    · exact h1 (e.trans e2))
/-- the saves have grown: the rest stands -/
theorem XAt.grownS (h : XAt xb c x cs p l r o t s w) (hg : w.grownBy w1 s.ownBlock) : w1.heap[xb]? = some (.cells cs tX (0, 0)) ∧ LogOwn xb x.log l w1 ∧ OutAt xb w1 x.reads r ∧ OutAt xb w1 x.outs o ∧ ETst.Own 135 (xb + 1) noB w1 x.tests t :=
  ⟨(hg.block xb h.lt (fun e => own_xb h.saves e.symm)).trans h.blk, h.log.kept hg (tyAt_ne h.tyL h.tyS (by decide)), out_kept h.reads hg (tyAt_ne h.reads.ty h.tyS (by decide)), out_kept h.outs hg (tyAt_ne h.outs.ty h.tyS (by decide)), h.tests.kept hg (tyAt_ne h.tyT h.tyS (by decide)) (fun _ h => h.elim)⟩
/-- the tests have grown: the rest stands -/
theorem XAt.grownT (h : XAt xb c x cs p l r o t s w) (hg : w.grownBy w1 t.ownBlock) : w1.heap[xb]? = some (.cells cs tX (0, 0)) ∧ LogOwn xb x.log l w1 ∧ OutAt xb w1 x.reads r ∧ OutAt xb w1 x.outs o ∧ EEnt.Own 76 (xb + 1) noB w1 x.saves s :=
  ⟨(hg.block xb h.lt (fun e => own_xb h.tests e.symm)).trans h.blk, h.log.kept hg (tyAt_ne h.tyL h.tyT (by decide)), out_kept h.reads hg (tyAt_ne h.reads.ty h.tyT (by decide)), out_kept h.outs hg (tyAt_ne h.outs.ty h.tyT (by decide)), h.saves.kept hg (tyAt_ne h.tyS h.tyT (by decide)) (fun _ h => h.elim)⟩
end
/-- blocks below xb are kept, and those of steps -/
abbrev tStep : TypeId := 80
structure BS (xb : Nat) (w w' : World) : Prop where
  bel : Below xb w w'
  st : ∀ (k : Nat) (cur : Array Value) (fr : Nat × Nat), w.heap[k]? = some (.cells cur tStep fr) → w'.heap[k]? = w.heap[k]?
theorem BS.trans {xb : Nat} {w w1 w2 : World} (h : BS xb w w1) (k : BS xb w1 w2) : BS xb w w2 :=
  ⟨h.bel.trans k.bel, fun b cur fr e => (k.st b cur fr ((h.st b cur fr e).trans e)).trans (h.st b cur fr e)⟩
theorem BS.of_below {xb : Nat} {w w1 : World} (h : Below w.heap.size w w1) (hx : xb ≤ w.heap.size) : BS xb w w1 :=
  ⟨h.mono hx, fun b _ _ e => h.block b (Array.getElem?_eq_some_iff.1 e).1⟩
theorem BS.of_only {xb : Nat} {w w1 : World} {cs : Array Value} {fr : Nat × Nat} (h : Only xb w w1) (hx : w.heap[xb]? = some (.cells cs tX fr)) : BS xb w w1 :=
  ⟨h.below (Nat.le_of_lt (Array.getElem?_eq_some_iff.1 hx).1), fun b cur fr2 e => h.block b (Array.getElem?_eq_some_iff.1 e).1 fun eb => by
    rw [eb, hx] at e
    injection e with e
    injection e with _ e _
    exact absurd e (by decide)⟩
theorem BS.of_onlyX {xb : Nat} {c : Nat → Value} {x : StM} {w w1 : World} (h : Only xb w w1) (hx : XSt xb c x w) : BS xb w w1 := by
  obtain ⟨cs, p, l, r, o, t, s, hx⟩ := hx
  exact BS.of_only h hx.blk
theorem BS.of_set {xb : Nat} {w : World} {cs : Array Value} {fr : Nat × Nat} (hx : w.heap[xb]? = some (.cells cs tX fr)) (k : Nat) (v : Value) : BS xb w (w.setCell ⟨xb, k, none⟩ v) :=
  have hw := wrote_setCell hx k v
  BS.of_only ⟨hw.os, hw.tape, hw.output, Nat.le_of_eq hw.size.symm, fun b _ hb => hw.block b hb⟩ hx
theorem BS.of_grown {xb : Nat} {w w1 : World} {v : Value} {t : TypeId} (h : w.grownBy w1 v.ownBlock) (ht : TyAt w v t) (hne : t ≠ tStep) (hv : ∀ q, v.ownBlock = some q → xb ≤ q) (hx : xb ≤ w.heap.size) : BS xb w w1 :=
  ⟨below_grown h hx hv, fun b cur fr e => h.block b (Array.getElem?_eq_some_iff.1 e).1 fun eb => by
    obtain ⟨cur2, fr2, q⟩ := ht b eb.symm
    rw [q] at e
    injection e with e
    injection e with _ e _
    exact hne e⟩
end Go.Proofs.YtghahghbahcpfaaGreatDoor
