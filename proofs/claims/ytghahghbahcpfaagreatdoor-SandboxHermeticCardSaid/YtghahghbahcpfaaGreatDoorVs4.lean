/- The view in memory; the walk over the execution's memo. -/
import Derived.Test.YtghahghbahcpfaaGreatDoorVs3
import Derived.Test.YtghahghbahcpfaaGreatDoorVa2
import Derived.Test.YtghahghbahcpfaaGreatDoorVs1
namespace Go.Proofs.YtghahghbahcpfaaGreatDoor
open Go.RowKit

structure VAt (xb : Nat) (c : Nat → Value) (v : ViewM) (w : World) : Prop where
  files : EFile.Row (fun b => b < xb) w v.files (c 39)
  arts : EOut.Row (fun b => b < xb) w v.arts (c 40)
  secs : ESec.Row (fun b => b < xb) w v.secs (c 41)
  caches : EEnt.Row (fun b => b < xb) w v.caches (c 42)
  keys : EStr.Row (fun b => b < xb) w v.keys (c 43)
  tests : EStr.Row (fun b => b < xb) w v.tests (c 44)
  times : ETim.Row (fun b => b < xb) w v.times (c 45)
  ign : EStr.Row (fun b => b < xb) w v.ignored (c 46)
  att : c 47 = .int .i64 v.attempt
theorem VAt.below {xb : Nat} {c : Nat → Value} {v : ViewM} {w w1 : World} (h : VAt xb c v w) (hb : Below xb w w1) : VAt xb c v w1 :=
  have k : ∀ b, b < xb → b < w.heap.size → w1.heap[b]? = w.heap[b]? := fun b h1 _ => hb.block b h1
  ⟨h.files.keep hb.size k, h.arts.keep hb.size k, h.secs.keep hb.size k, h.caches.keep hb.size k, h.keys.keep hb.size k, h.tests.keep hb.size k, h.times.keep hb.size k, h.ign.keep hb.size k, h.att⟩
/-- a view of moderate size -/
structure VB (v : ViewM) : Prop where
  files : v.files.length ≤ 1000000
  arts : v.arts.length ≤ 1000000
  secs : v.secs.length ≤ 1000000
  caches : v.caches.length ≤ 1000000
  keys : v.keys.length ≤ 1000000
  tests : v.tests.length ≤ 1000
  times : v.times.length ≤ 1000000
  ign : v.ignored.length ≤ 1000000
  fileN : ∀ f ∈ v.files, f.path.size ≤ 10000 ∧ f.dig < 18446744073709551616
  artN : ∀ o ∈ v.arts, o.name.size ≤ 10000 ∧ o.dig < 18446744073709551616
  secN : ∀ s ∈ v.secs, s.text.size ≤ 10000
  keyN : ∀ k ∈ v.keys, k.size ≤ 10000
theorem wp_build3M {P : Program} {o : Oper} {a : Act} {w : World} {K : Act → World → Prop} {Q : Exit → Act → World → Prop} (t : TypeId) {i j k : Nat} (x y z : Operand) (ho : o.op = .build t #[(i, x), (j, y), (k, z)])
    (vx vy vz : Value) (hx : a.eval x = vx) (hy : a.eval y = vy) (hz : a.eval z = vz) (cells : Array Value) (hf : P.built t [(i, vx), (j, vy), (k, vz)] = some cells)
    (h : K (a.put o.dst (.agg cells)) w) : o.wp P a w K Q := by
  have e : (#[(i, x), (j, y), (k, z)].map fun (i, x) => (i, a.eval x)).toList = [(i, a.eval x), (j, a.eval y), (k, a.eval z)] := by simp
  refine wp_build t #[(i, x), (j, y), (k, z)] ho ?_ ?_
  · rw [e, hx, hy, hz, hf]; rfl
  · rw [e, hx, hy, hz, hf]; exact h
theorem Tryz.built_ent (k : ByteArray) (d : Int) (z : Int) : Tryz.prog.built 76 [(1, .string k), (2, .int .u64 d), (3, .int .i64 z)] = some #[.string ⟨#[]⟩, .int .i64 0, .string ⟨#[]⟩, .string k, .int .u64 d, .int .i64 z, .int .i64 0, .int .i64 0] := by kernel_rfl
theorem Tryz.infoEnt : (Tryz.prog.info? 76).map (fun i => (i.zero, i.size, i.bytes)) = some (some (.agg #[.string ⟨#[]⟩, .int .i64 0, .string ⟨#[]⟩, .string ⟨#[]⟩, .int .u64 0, .int .i64 0, .int .i64 0, .int .i64 0]), 8, 88) := by kernel_rfl
theorem Tryz.infoEnt' : ∃ i, Tryz.prog.info? 76 = some i ∧ i.zero = some (.agg #[.string ⟨#[]⟩, .int .i64 0, .string ⟨#[]⟩, .string ⟨#[]⟩, .int .u64 0, .int .i64 0, .int .i64 0, .int .i64 0]) ∧ i.size = 8 ∧ i.bytes = 88 := info_parts Tryz.infoEnt
theorem xat_saves {xb : Nat} {c : Nat → Value} {x : StM} {cs : Array Value} {p l r o t s : Value} {w w1 : World} (h : XAt xb c x cs p l r o t s w) (k1 : w1.heap[xb]? = some (.cells cs tX (0, 0))) (k2 : LogOwn xb x.log l w1) (k3 : OutAt xb w1 x.reads r) (k4 : OutAt xb w1 x.outs o) (k5 : ETst.Own 135 (xb + 1) noB w1 x.tests t)
    (L : List EntM) (v : Value) (hv : EEnt.Own 76 (xb + 1) noB w1 L v) : XAt xb c { x with saves := L } (cs.setIfInBounds 55 v) p l r o t v (w1.setCell ⟨xb, 55, none⟩ v) ∧ BS xb w1 (w1.setCell ⟨xb, 55, none⟩ v) := by
  have hw := wrote_setCell k1 55 v
  have hsz := h.size
  have g : ∀ j, j ≠ 55 → (cs.setIfInBounds 55 v)[j]? = cs[j]? := fun j hj => Array.getElem?_setIfInBounds_ne (fun e => hj e.symm)
  refine ⟨⟨hw.at_, by rw [Array.size_setIfInBounds]; exact hsz, fun j hj => by rw [g j (by omega)]; exact h.jv j hj, by rw [g 48 (by omega)]; exact h.c48, h.acc, by rw [g 49 (by omega)]; exact h.c49, h.time, by rw [g 50 (by omega)]; exact h.c50, h.bld, by rw [g 51 (by omega)]; exact h.c51, ownsRow_wrote k2 hw (Nat.lt_succ_self _),
    by rw [g 52 (by omega)]; exact h.c52, out_store k3 k1 hw, by rw [g 53 (by omega)]; exact h.c53, out_store k4 k1 hw, by rw [g 54 (by omega)]; exact h.c54, own_store k5 hw, by rw [Array.getElem?_setIfInBounds, if_pos rfl, if_pos (by omega)], own_store hv hw, by rw [g 56 (by omega)]; exact h.c56⟩, BS.of_set k1 55 v⟩
/-- the state behind a computation whose content has a key -/
def memoSt (v : ViewM) (x : StM) (n : Int) : StM := { x with acc := ofN [109, 101, 109, 111] [x.acc, memoF (keyF v n)], saves := if knownF v x.saves n = true then x.saves else x.saves ++ [⟨ByteArray.empty, 0, ByteArray.empty, keyF v n, memoF (keyF v n), sizeF (memoF (keyF v n)), 0, 0⟩] }
set_option maxRecDepth 100000 in
set_option maxHeartbeats 6400000 in
theorem xmemo_any (n xb : Nat) (c : Nat → Value) (x : StM) (v : ViewM) (hn : n < v.keys.length) (hsv : x.saves.length ≤ 10000) (hB : VB v) (w : World) (hst : XSt xb c x w) (hv : VAt xb c v w) :
    Calls Tryz.prog 129 #[.pointer (some ⟨xb, 0, none⟩), .int .i64 (n : Nat)] w fun e w' => e = .returned (.tuple #[]) ∧ XSt xb c (memoSt v x (n : Nat)) w' ∧ BS xb w w' := by
  have hkey := keyF_at hn
  have hks1 := hB.keyN _ (List.getElem_mem hn)
  obtain ⟨ko, kc, hkf⟩ := hv.keys.form
  have hkr := hv.keys
  rw [hkf] at hkr
  obtain ⟨kb, koff, rfl, hkb, y0⟩ := strs_at hkr hn
  rw [← hkey] at y0 hks1
  have hnk : (n : Int) < (v.keys.length : Int) := by omega
  have c43 := hst.cell (k := 43) (by decide)
  rw [hkf] at c43
  have hlt := hst.lt
  have MM := Lib.hid (memo_any (keyF v (n : Nat)) (by omega) w)
  have HMM : Hid (memoF (keyF v (n : Nat)) < 18446744073709551616) := ofN_lt _ _
  have HST := Lib.hid hst
  have HV := Lib.hid hv
  have HB := Lib.hid hB
  have HNL := Lib.hid hn
  have HRT : Hid (knownF v x.saves (n : Nat) = true → memoSt v x (n : Nat) = { x with acc := ofN [109, 101, 109, 111] [x.acc, memoF (keyF v (n : Nat))] }) := fun h => by unfold memoSt; rw [if_pos h]
  have HRF : Hid (knownF v x.saves (n : Nat) = false → memoSt v x (n : Nat) = { x with acc := ofN [109, 101, 109, 111] [x.acc, memoF (keyF v (n : Nat))], saves := x.saves ++ [⟨ByteArray.empty, 0, ByteArray.empty, keyF v (n : Nat), memoF (keyF v (n : Nat)), sizeF (memoF (keyF v (n : Nat))), 0, 0⟩] }) := fun h => by unfold memoSt; rw [if_neg (by rw [h]; simp)]
  obtain ⟨key, hkk⟩ : ∃ k, keyF v (n : Nat) = k := ⟨_, rfl⟩
  obtain ⟨mk, hmk⟩ : ∃ m, memoF key = m := ⟨_, rfl⟩
  rw [hkk] at MM HMM y0
  rw [hmk] at MM HMM
  have HKK := Lib.hid hkk
  have HMK := Lib.hid hmk
  clear hkey hks1 hkr hst hv hB hn hkk hmk hkf
  go_enter Tryz.func129, Tryz.ntmps129
  go_wp2_with fail
  refine MM.out.mono ?_
  rintro e w2 ⟨rfl, hb⟩
  have HB2 := Lib.hid hb
  have hz2 := hb.size
  have hx2 := HST.out.grow hb
  have HX2 := Lib.hid (hx2.grow ((Below.refl _ w2).alloc (Nat.le_refl _) (.cells #[.int .u64 (mk : Nat)] 58)))
  have MX := Lib.hid (xmix_any xb c x ⟨#[109, 101, 109, 111]⟩ [mk] _ _ (by decide) (by show 1 ≤ 1000; decide) (fun d hd => by rw [List.mem_singleton.1 hd]; exact HMM.out) (w2.alloc (.cells #[.int .u64 (mk : Nat)] 58)) HX2.out (ed_one (hp_new rfl)))
  clear hb MM hx2 c43 y0
  go_wp2_with fail
  refine MX.out.mono ?_
  rintro e w3 ⟨rfl, hx3, hb⟩
  have HBS3 : Hid (BS xb w w3) := (BS.of_below (HB2.out.alloc (by omega) _) (Nat.le_of_lt hlt)).trans (BS.of_onlyX hb HX2.out)
  have HB3 := Lib.hid HBS3.out.bel
  have HX3 : Hid (XSt xb c { x with acc := ofN [109, 101, 109, 111] [x.acc, mk] } w3) := hx3
  clear hx3 hb MX HX2
  have HV3 := Lib.hid (HV.out.below HB3.out)
  obtain ⟨cs, p, l, r, o, t, s, hx3⟩ := HX3.out
  have KN := Lib.hid (known_any n xb v x.saves (c 43) s (c 42) _ _ _ HNL.out HB.out.keys (by omega) HB.out.caches (fun k hk => Nat.le_trans (HB.out.keyN k hk) (by decide)) w3 (HX3.out.cell (by decide)) (HX3.out.cell (by decide)) ((cell_of_blk hx3.blk 55).trans hx3.c55) HV3.out.keys (hx3.saves.row (B' := fun _ => True) (fun _ _ => trivial) (fun _ _ => trivial)) HV3.out.caches)
  have HX3 := Lib.hid hx3
  clear hx3
  go_wp2_with fail
  refine KN.out.mono ?_
  rintro e w4 ⟨rfl, hb⟩
  have HB4 : Hid (BS xb w w4) := HBS3.out.trans (BS.of_below hb (Nat.le_of_lt HX3.out.lt))
  have HX4 := Lib.hid (HX3.out.grow hb)
  clear hb KN HX3
  cases hkn : knownF v x.saves (n : Nat) with
  | true =>
    have HR := Lib.hid (HRT.out hkn)
    clear hkn HRT HRF
    go_wp2_with fail
    go_end0
    refine ⟨rfl, ⟨cs, p, l, r, o, t, s, ?_⟩, HB4.out⟩
    rw [HR.out, HKK.out, HMK.out]
    exact HX4.out
  | false =>
    have HR := Lib.hid (HRF.out hkn)
    clear hkn HRT HRF
    have HDR : Hid (Below w4.heap.size w4 w4.drew) := (Below.refl _ _).drew
    have c55 : w4.drew.cell? ⟨xb, 55, none⟩ = some s := (cell_of_blk HX4.out.blk 55).trans HX4.out.c55
    obtain ⟨iE, hiE, hzE, hnE, hyE⟩ := Tryz.infoEnt'
    have HI := Lib.hid hiE
    obtain ⟨x4, hx4e⟩ : ∃ x4, ({ x with acc := ofN [109, 101, 109, 111] [x.acc, mk] } : StM) = x4 := ⟨_, rfl⟩
    have hsv4 : x4.saves.length ≤ 10000 := by rw [← hx4e]; exact hsv
    rw [hx4e] at HX4
    have HE4 := Lib.hid hx4e
    clear hiE hx4e
    go_upto_region 4 with fail
    refine wp_region_Z (S := fun W' : World => W'.cell? ⟨xb, 55, none⟩ = some s) 14 (by kernel_rfl) c55 (fun hHeld => ?_)
    refine ztk 0 ?_
    try simp only [Act.put, zA, zB, zC]
    refine ztk 1 ?_
    try simp only [Act.put, zA, zB, zC]
    refine ztk 2 ?_
    try simp only [Act.put, zA, zB, zC]
    refine ztk 3 ?_
    try simp only [Act.put, zA, zB, zC]
    refine ztk 4 ?_
    try simp only [Act.put, zA, zB, zC]
    refine ztk 5 ?_
    try simp only [Act.put, zA, zB, zC]
    refine ztk 6 ?_
    try simp only [Act.put, zA, zB, zC]
    refine ztk 7 ?_
    try simp only [Act.put, zA, zB, zC]
    have hHeld0 := hHeld
    obtain ⟨wd, hwd⟩ : ∃ wd, w4.drew = wd := ⟨_, rfl⟩
    rw [hwd] at HDR hHeld0 ⊢
    refine wpAnyZ_oneL (i := 8) (by kernel_rfl) rfl (fun K hK => ?_)
    go_simp
    go_at_call 22
    refine (size_any mk _).mono ?_
    rintro e w5 ⟨rfl, rfl⟩
    refine hK.out _ _ (fun _ => hHeld0) (fun hHeld => ?_)
    replace hHeld := hHeld (by decide)
    clear hK K
    try simp only [Act.put, zA, zB, zC]
    refine wpAnyZ_oneL (i := 9) (by kernel_rfl) rfl (fun K hK => ?_)
    rw [if_pos (by rfl)]
    refine wp_build3M 76 (.tmp 29) (.tmp 30) (.tmp 32) rfl _ _ _ rfl rfl rfl #[.string ⟨#[]⟩, .int .i64 0, .string ⟨#[]⟩, .string key, .int .u64 (mk : Nat), .int .i64 (sizeF mk), .int .i64 0, .int .i64 0] (Tryz.built_ent _ _ _) ?_
    refine hK.out _ _ (fun _ => hHeld0) (fun hHeld => ?_)
    replace hHeld := hHeld (by decide)
    clear hK K
    try simp only [Act.put, zA, zB, zC]
    refine wpAnyZ_oneL (i := 10) (by kernel_rfl) rfl (fun K hK => ?_)
    rw [if_pos (by rfl)]
    refine wp_build1 42 76 (.tmp 33) rfl #[.string ⟨#[]⟩, .int .i64 0, .string ⟨#[]⟩, .string key, .int .u64 (mk : Nat), .int .i64 (sizeF mk), .int .i64 0, .int .i64 0] iE _ Tryz.underlying42 HI.out hzE 8 hnE (by decide) (by decide) rfl rfl ?_
    obtain ⟨W7, hW7⟩ : ∃ W7, w5.alloc (.cells #[.string ⟨#[]⟩, .int .i64 0, .string ⟨#[]⟩, .string key, .int .u64 (mk : Nat), .int .i64 (sizeF mk), .int .i64 0, .int .i64 0] 76) = W7 := ⟨_, rfl⟩
    have hk7 : W7.heap[w5.heap.size]? = some (.cells #[.string ⟨#[]⟩, .int .i64 0, .string ⟨#[]⟩, .string key, .int .u64 (mk : Nat), .int .i64 (sizeF mk), .int .i64 0, .int .i64 0] 76 (0, 0)) := by rw [← hW7]; exact hp_new rfl
    have HB7 : Hid (Below w4.heap.size w4 W7) := by unfold Hid; rw [← hW7]; exact HDR.out.alloc HDR.out.size _
    have hx7 := HX4.out.grow HB7.out
    have c557 : W7.cell? ⟨xb, 55, none⟩ = some s := (cell_of_blk hx7.blk 55).trans hx7.c55
    have hz7 := HB7.out.size
    have hl4 := HX4.out.lt
    rw [hW7]
    clear hW7
    refine hK.out _ _ (fun _ => c557) (fun hHeld => ?_)
    replace hHeld := hHeld (by decide)
    clear hK K
    try simp only [Act.put, zA, zB, zC]
    refine wpAnyZ_oneL (i := 11) (by kernel_rfl) rfl (fun K hK => ?_)
    rw [if_pos (by rfl)]
    refine wp_own_push (E := EEnt) (.tmp 28) (.tmp 34) 42 rfl (xb + 1) 76 iE _ 88 Tryz.underlying42 HI.out hzE hnE hyE rfl x4.saves s rfl hx7.saves ⟨ByteArray.empty, 0, ByteArray.empty, key, mk, sizeF mk, 0, 0⟩ [.string ⟨#[]⟩, .int .i64 0, .string ⟨#[]⟩, .string key, .int .u64 (mk : Nat), .int .i64 (sizeF mk), .int .i64 0, .int .i64 0] rfl w5.heap.size (0, 0) hk7 rfl (by unfold maxLen; omega) (by omega) (by omega) ?_
    intro v8 w8 hown hgrow hpu
    obtain ⟨k1, k2, k3, k4, k5⟩ := hx7.grownS hgrow
    have c558 : w8.cell? ⟨xb, 55, none⟩ = some s := (cell_of_blk k1 55).trans hx7.c55
    have f558 := free_of_blk k1 55
    obtain ⟨g8, p8, hv8⟩ := hpu.form
    subst hv8
    have hx8 := xat_saves hx7 k1 k2 k3 k4 k5 (x4.saves ++ [⟨ByteArray.empty, 0, ByteArray.empty, key, mk, sizeF mk, 0, 0⟩]) _ hown
    have HX8 := Lib.hid hx8.1
    have HB8 : Hid (BS xb w4 _) := ((BS.of_below HB7.out (Nat.le_of_lt hl4)).trans (BS.of_grown hgrow hx7.tyS (by decide) (fun q e => by have := (hx7.saves.low q e).1; omega) (by omega))).trans hx8.2
    clear hown hgrow hpu k1 k2 k3 k4 k5 hx7 hx8 hk7
    refine hK.out _ _ (fun _ => c558) (fun hHeld => ?_)
    replace hHeld := hHeld (by decide)
    clear hK K
    try simp only [Act.put, zA, zB, zC]
    refine ztk 12 ?_
    try simp only [Act.put, zA, zB, zC]
    refine ztk 13 ?_
    try simp only [Act.put, zA, zB, zC]
    have hHeld9 := hHeld
    clear c55 c557 hHeld0
    refine wpAnyZ_oneL (i := 14) (by kernel_rfl) rfl (fun K hK => ?_)
    go_simp
    refine hK.out _ _ (fun h => absurd h (by decide)) (fun _ => ?_)
    clear hK K
    try simp only [Act.put, zA, zB, zC]
    refine wpAnyZ_done (by kernel_rfl) ?_ _
    clear hHeld hHeld9
    go_wp2_with fail
    go_end0
    have e4 := HE4.out
    subst e4
    refine ⟨rfl, ?_, HB4.out.trans HB8.out⟩
    rw [HR.out, HKK.out, HMK.out]
    exact ⟨_, _, _, _, _, _, _, HX8.out⟩
end Go.Proofs.YtghahghbahcpfaaGreatDoor
/- The walk over the execution's take at a file. -/
namespace Go.Proofs.YtghahghbahcpfaaGreatDoor
open Go.RowKit

theorem ed_two {w : World} {blk : Nat} {x y : Nat} {t : TypeId} (h : w.heap[blk]? = some (.cells #[.int .u64 (x : Nat), .int .u64 (y : Nat)] t (0, 0))) : EDig.Row (fun _ => True) w [x, y] (.slice (some ⟨blk, 0, none⟩) 2 2) :=
  .inr ⟨blk, 0, 2, rfl, trivial, (Array.getElem?_eq_some_iff.1 h).1, Nat.le_refl _, fun k hk => ⟨[.int .u64 ([x, y][k] : Nat)], fun j u hu => by
    have hk : k = 0 ∨ k = 1 := by simp at hk; omega
    have hj : j = 0 := by
      have := (List.getElem?_eq_some_iff.1 hu).1
      simpa using this
    subst hj
    injection hu with hu
    subst hu
    rw [cell_of_blk h]
    rcases hk with rfl | rfl <;> rfl, rfl⟩⟩
theorem wp_build2M {P : Program} {o : Oper} {a : Act} {w : World} {K : Act → World → Prop} {Q : Exit → Act → World → Prop} (t : TypeId) (x y : Operand) (ho : o.op = .build t #[(0, x), (1, y)])
    (vx vy : Value) (hx : a.eval x = vx) (hy : a.eval y = vy) (cells : Array Value) (hf : P.built t [(0, vx), (1, vy)] = some cells)
    (h : K (a.put o.dst (.agg cells)) w) : o.wp P a w K Q := by
  have e : (#[(0, x), (1, y)].map fun (i, x) => (i, a.eval x)).toList = [(0, a.eval x), (1, a.eval y)] := by simp
  refine wp_build t #[(0, x), (1, y)] ho ?_ ?_
  · rw [e, hx, hy, hf]; rfl
  · rw [e, hx, hy, hf]; exact h
theorem Tryz.built_out2 (k : ByteArray) (d : Int) : Tryz.prog.built tOut [(0, .string k), (1, .int .u64 d)] = some #[.string k, .int .u64 d, .int .i64 0] := by kernel_rfl
/-- a step as a value -/
abbrev stepV (s : StepM) : Value := .agg #[.int .i64 s.op, .string s.name, .string s.text, .int .i64 s.n]
theorem file_add (p : ByteArray) : (⟨#[102, 105, 108, 101, 58]⟩ : ByteArray) ++ p = fileN p := by
  unfold fileN
  apply ByteArray.ext
  apply Array.ext'
  simp [bs]
set_option maxRecDepth 100000 in
set_option maxHeartbeats 6400000 in
theorem take_read (xb : Nat) (c : Nat → Value) (x : StM) (v : ViewM) (s : StepM) (h1 : s.op = 1) (f : FileM) (hf : fileF v s.name = some f) (hrl : x.reads.length ≤ 900) (hB : VB v) (w : World) (hst : XSt xb c x w) (hv : VAt xb c v w) :
    Calls Tryz.prog 90 #[.pointer (some ⟨xb, 0, none⟩), stepV s] w fun e w' => e = .returned (.tuple #[]) ∧ XSt xb c (takeF v x s) w' ∧ BS xb w w' := by
  obtain ⟨op, nm, tx, n⟩ := s
  dsimp only at h1 hf
  subst h1
  have hmem := List.mem_of_find?_eq_some hf
  obtain ⟨hps, hdg⟩ := hB.fileN f hmem
  have HTF : Hid (takeF v x ⟨1, nm, tx, n⟩ = { x with acc := ofN [114, 101, 97, 100] [x.acc, sumS f.path, f.dig], reads := putF x.reads ⟨fileN f.path, f.dig, 0⟩ }) := by
    unfold Hid takeF
    dsimp only
    rw [if_pos rfl, hf]
  have hlt := hst.lt
  obtain ⟨w1, hw1⟩ : ∃ w1, w.alloc (.cells #[.int .i64 1, .string nm, .string tx, .int .i64 n] 80 (0, 0)) = w1 := ⟨_, rfl⟩
  have hk1 : w1.heap[w.heap.size]? = some (.cells #[.int .i64 1, .string nm, .string tx, .int .i64 n] 80 (0, 0)) := by rw [← hw1]; exact hp_new rfl
  have hb1 : Below w.heap.size w w1 := by rw [← hw1]; exact (Below.refl _ w).alloc (Nat.le_refl _) _
  have hz1 : w.heap.size < w1.heap.size := (Array.getElem?_eq_some_iff.1 hk1).1
  obtain ⟨fo, fc, hff⟩ := hv.files.form
  have FA := Lib.hid (file_any nm xb v.files (c 39) _ (by have := hB.files; omega) w1 ((hst.grow hb1).cell (by decide)) (hv.below (hb1.mono (Nat.le_of_lt hlt))).files)
  have s0 : w1.cell? ⟨w.heap.size, 0, none⟩ = some (.int .i64 1) := cell_of_blk hk1 0
  have s1 : w1.cell? ⟨w.heap.size, 1, none⟩ = some (.string nm) := cell_of_blk hk1 1
  have HK1 := Lib.hid hk1
  have HST := Lib.hid (hst.grow hb1)
  have HB1 := Lib.hid hb1
  have HW1 := Lib.hid hw1
  have HFQ : Hid (v.files.find? (fun y => decide (y.path = nm)) = some f) := hf
  have SUM := Lib.hid (fun w => sum_any f.path (by omega) w)
  have hsm64 : sumS f.path < 18446744073709551616 := sumN_lt _
  have HDS : Hid (∀ d ∈ [sumS f.path, f.dig], d < 18446744073709551616) := fun d hd => by
    rcases List.mem_cons.1 hd with rfl | hd
    · exact hsm64
    · rw [List.mem_singleton.1 hd]; exact hdg
  have hadd := file_add f.path
  have hsz5 : ¬ (9223372036854775807 < 5 + f.path.size) := by omega
  obtain ⟨sm, hsm⟩ : ∃ sm, sumS f.path = sm := ⟨_, rfl⟩
  obtain ⟨dg, hdge⟩ : ∃ dg, f.dig = dg := ⟨_, rfl⟩
  rw [hsm] at SUM HDS HTF
  rw [hdge] at HDS HTF
  have HDG := Lib.hid hdge
  clear hst hv hB hk1 hb1 hw1 hf hmem hdg hsm64 hsm hdge hff
  go_enter Tryz.func90, Tryz.ntmps90
  go_upto_region 1 with fail
  rw [HW1.out]
  clear HW1
  go_wp2_with fail
  refine FA.out.mono ?_
  rintro e w2 ⟨cs, rfl, hsome, _, hb⟩
  have hcs : cs = [.string f.path, .int .u64 (f.dig : Nat)] := hsome f HFQ.out
  rw [HDG.out] at hcs
  subst hcs
  have HB2 := Lib.hid (HB1.out.trans (hb.mono HB1.out.size))
  have HST2 := Lib.hid (HST.out.grow hb)
  have hz2 := HB2.out.size
  have HQ2 : Hid ((v.files.find? (fun y => decide (y.path = nm))).isSome = true) := by unfold Hid; rw [HFQ.out]; rfl
  rw [HQ2.out]
  clear hb hsome FA s0 s1 HQ2
  go_wp2_with (refine wpList_store_row rfl 85 _ _ rfl w2.heap.size rfl 85 _ (hp_new rfl) (.agg #[.string f.path, .int .u64 (dg : Nat)]) rfl (by kernel_rfl) rfl rfl ?_)
  intro w3 hw3
  have hk3 : w3.heap[w2.heap.size]? = some (.cells #[.string f.path, .int .u64 (dg : Nat)] 85 (0, 0)) := hw3.at_
  have HB23 : Hid (Below w2.heap.size w2 w3) := ((Below.refl _ w2).alloc (Nat.le_refl _) _).trans (hw3.below (Nat.le_refl _))
  have HX3 := Lib.hid (HST2.out.grow HB23.out)
  have HB3 := Lib.hid (HB2.out.trans (HB23.out.mono HB2.out.size))
  obtain ⟨fb, hfb⟩ : ∃ fb, w2.heap.size = fb := ⟨_, rfl⟩
  have hfx : fb ≠ xb := by omega
  rw [hfb] at hk3
  have hfb3 : fb < w3.heap.size := (Array.getElem?_eq_some_iff.1 hk3).1
  have HS3 : Hid (∀ W' : World, Below w3.heap.size w3 W' → W'.cell? ⟨fb, 0, none⟩ = some (.string f.path) ∧ W'.cell? ⟨fb, 1, none⟩ = some (.int .u64 (dg : Nat))) := fun W' hb => ⟨cell_of_blk ((hb.block _ hfb3).trans hk3) 0, cell_of_blk ((hb.block _ hfb3).trans hk3) 1⟩
  have HDR : Hid (Below w3.heap.size w3 w3.drew) := (Below.refl _ _).drew
  have HK3 := Lib.hid hk3
  have HFB3 := Lib.hid hfb3
  clear hw3 hk3 HB23
  go_upto_region 4 with fail
  rw [hfb]
  clear hfb hz2 hfb3
  refine wp_region_Z (S := fun W' : World => W'.cell? ⟨fb, 0, none⟩ = some (.string f.path) ∧ W'.cell? ⟨fb, 1, none⟩ = some (.int .u64 (dg : Nat))) 7 (by kernel_rfl) (HS3.out _ HDR.out) (fun hHeld => ?_)
  refine ztk 0 ?_
  try simp only [Act.put, zA, zB, zC]
  refine ztk 1 ?_
  try simp only [Act.put, zA, zB, zC]
  refine ztk 2 ?_
  try simp only [Act.put, zA, zB, zC]
  refine ztk 4 ?_
  try simp only [Act.put, zA, zB, zC]
  refine ztk 5 ?_
  try simp only [Act.put, zA, zB, zC]
  refine wpAnyZ_oneL (i := 3) (by kernel_rfl) rfl (fun K hK => ?_)
  go_simp
  go_at_call 39
  refine (SUM.out _).mono ?_
  rintro e w5 ⟨rfl, hb5⟩
  have HB5 := Lib.hid (HDR.out.trans (hb5.mono HDR.out.size))
  clear hb5
  refine hK.out _ _ (fun _ => HS3.out _ HB5.out) (fun hHeld => ?_)
  replace hHeld := hHeld (by decide)
  clear hK K
  try simp only [Act.put, zA, zB, zC]
  refine wpAnyZ_oneL (i := 6) (by kernel_rfl) rfl (fun K hK => ?_)
  go_simp
  obtain ⟨w6, hw6⟩ : ∃ w6, w5.alloc (.cells #[.int .u64 (sm : Nat), .int .u64 (dg : Nat)] 58) = w6 := ⟨_, rfl⟩
  have hk6 : w6.heap[w5.heap.size]? = some (.cells #[.int .u64 (sm : Nat), .int .u64 (dg : Nat)] 58 (0, 0)) := by rw [← hw6]; exact hp_new rfl
  have HB6 : Hid (Below w3.heap.size w3 w6) := by unfold Hid; rw [← hw6]; exact HB5.out.alloc HB5.out.size _
  rw [hw6]
  clear hw6
  have MX := Lib.hid (xmix_any xb c x ⟨#[114, 101, 97, 100]⟩ [sm, dg] _ _ (by decide) (by show 2 ≤ 1000; decide) HDS.out w6 (HX3.out.grow HB6.out) (ed_two hk6))
  refine hK.out _ _ (fun _ => HS3.out _ HB6.out) (fun hHeld => ?_)
  replace hHeld := hHeld (by decide)
  clear hK K
  try simp only [Act.put, zA, zB, zC]
  refine wpAnyZ_oneL (i := 7) (by kernel_rfl) rfl (fun K hK => ?_)
  go_simp
  go_at_call 128
  refine MX.out.mono ?_
  rintro e w7 ⟨rfl, hx7, ho7⟩
  have HX7 := Lib.hid hx7
  have HON : Hid (Only xb w3 w7) := Only.pre HB6.out ho7
  clear hx7 ho7 MX
  refine hK.out _ _ (fun h => absurd h (by decide)) (fun _ => ?_)
  clear hK K
  try simp only [Act.put, zA, zB, zC]
  refine wpAnyZ_done (by kernel_rfl) ?_ _
  clear hHeld
  have HB7 : Hid (BS xb w w7) := (BS.of_below HB3.out (Nat.le_of_lt hlt)).trans (BS.of_onlyX HON.out HX3.out)
  have HK7 : Hid (w7.heap[fb]? = some (.cells #[.string f.path, .int .u64 (dg : Nat)] 85 (0, 0))) := (HON.out.block _ HFB3.out hfx).trans HK3.out
  obtain ⟨cs, p, l, r, o, t, s, hx7⟩ := HX7.out
  obtain ⟨x7, hx7e⟩ : ∃ x7, ({ x with acc := ofN [114, 101, 97, 100] [x.acc, sm, dg] } : StM) = x7 := ⟨_, rfl⟩
  have hr7 : x7.reads.length ≤ 900 := by rw [← hx7e]; exact hrl
  have hx7 : XAt xb c x7 cs p l r o t s w7 := by rw [← hx7e]; exact hx7
  have HX8 := Lib.hid hx7
  have HE7 := Lib.hid hx7e
  have hfb7 : fb < w7.heap.size := (Array.getElem?_eq_some_iff.1 HK7.out).1
  have HS5 : Hid (∀ W' : World, Below w7.heap.size w7 W' → W'.cell? ⟨xb, 52, none⟩ = some r ∧ W'.cell? ⟨fb, 0, none⟩ = some (.string f.path) ∧ W'.cell? ⟨fb, 1, none⟩ = some (.int .u64 (dg : Nat))) := fun W' hb => ⟨(cell_of_blk ((hx7.grow hb).blk) 52).trans hx7.c52, cell_of_blk ((hb.block _ hfb7).trans HK7.out) 0, cell_of_blk ((hb.block _ hfb7).trans HK7.out) 1⟩
  have HDR2 : Hid (Below w7.heap.size w7 w7.drew) := (Below.refl _ _).drew
  have PT : Hid (∀ W, Below w7.heap.size w7 W → Calls Tryz.prog 91 #[r, .agg #[.string (fileN f.path), .int .u64 (dg : Nat), .int .i64 0]] W fun e w' => ∃ r', e = .returned r' ∧ OutAt xb w' (putF x7.reads ⟨fileN f.path, dg, 0⟩) r' ∧ Below W.heap.size W w') := fun W hb => xput_any xb x7.reads r ⟨fileN f.path, dg, 0⟩ _ (by omega) W (hx7.grow hb).lt (hx7.grow hb).reads.row
  clear hx7 hx7e HX7 hfb7 HON HK3 HS3 SUM
  go_upto_region 5 with fail
  refine wp_region_Z (S := fun W' : World => W'.cell? ⟨xb, 52, none⟩ = some r ∧ W'.cell? ⟨fb, 0, none⟩ = some (.string f.path) ∧ W'.cell? ⟨fb, 1, none⟩ = some (.int .u64 (dg : Nat))) 14 (by kernel_rfl) (HS5.out _ HDR2.out) (fun hHeld => ?_)
  refine ztk 0 ?_
  try simp only [Act.put, zA, zB, zC]
  refine ztk 1 ?_
  try simp only [Act.put, zA, zB, zC]
  refine ztk 2 ?_
  try simp only [Act.put, zA, zB, zC]
  refine ztk 3 ?_
  try simp only [Act.put, zA, zB, zC]
  refine ztk 4 ?_
  try simp only [Act.put, zA, zB, zC]
  refine ztk 5 ?_
  try simp only [Act.put, zA, zB, zC]
  refine ztk 6 ?_
  try simp only [Act.put, zA, zB, zC]
  refine ztk 7 ?_
  try simp only [Act.put, zA, zB, zC]
  refine ztk 8 ?_
  try simp only [Act.put, zA, zB, zC]
  refine ztk 9 ?_
  try simp only [Act.put, zA, zB, zC]
  refine wpAnyZ_oneL (i := 10) (by kernel_rfl) rfl (fun K hK => ?_)
  rw [if_pos (by rfl)]
  refine wp_build2M tOut (.tmp 36) (.tmp 38) rfl _ _ rfl rfl #[.string (fileN f.path), .int .u64 (dg : Nat), .int .i64 0] (Tryz.built_out2 _ _) ?_
  refine hK.out _ _ (fun _ => HS5.out _ HDR2.out) (fun hHeld => ?_)
  replace hHeld := hHeld (by decide)
  clear hK K
  try simp only [Act.put, zA, zB, zC]
  refine wpAnyZ_oneL (i := 11) (by kernel_rfl) rfl (fun K hK => ?_)
  go_simp
  go_at_call 91
  refine (PT.out _ HDR2.out).mono ?_
  rintro e w8 ⟨r8, rfl, hr8, hb8⟩
  obtain ⟨g8, p8, hv8⟩ := hr8.row.form
  subst hv8
  have HB8 := Lib.hid (HDR2.out.trans (hb8.mono HDR2.out.size))
  have hx8 := HX8.out.grow HB8.out
  have f852 := free_of_blk hx8.blk 52
  have c852 := (HS5.out _ HB8.out).1
  have hp := hx8.putRow 52 _ ⟨by decide, by decide⟩ { x7 with reads := putF x7.reads ⟨fileN f.path, dg, 0⟩ } ⟨rfl, rfl, rfl, rfl⟩ hr8 hx8.outs hx8.tests hx8.saves
  have HP := Lib.hid hp
  clear hr8 hb8 hx8 hp
  refine hK.out _ _ (fun _ => HS5.out _ HB8.out) (fun hHeld => ?_)
  replace hHeld := hHeld (by decide)
  clear hK K
  try simp only [Act.put, zA, zB, zC]
  refine ztk 12 ?_
  try simp only [Act.put, zA, zB, zC]
  refine ztk 13 ?_
  try simp only [Act.put, zA, zB, zC]
  refine wpAnyZ_oneL (i := 14) (by kernel_rfl) rfl (fun K hK => ?_)
  go_simp
  refine hK.out _ _ (fun h => absurd h (by decide)) (fun _ => ?_)
  clear hK K
  try simp only [Act.put, zA, zB, zC]
  refine wpAnyZ_done (by kernel_rfl) ?_ _
  clear hHeld
  go_wp2_with fail
  go_end0
  have e7 := HE7.out
  subst e7
  refine ⟨rfl, ?_, HB7.out.trans ((BS.of_below HB8.out (Nat.le_of_lt HX8.out.lt)).trans (BS.of_set (HX8.out.grow HB8.out).blk _ _))⟩
  rw [HTF.out]
  exact ⟨_, _, _, _, _, _, _, HP.out.1⟩
end Go.Proofs.YtghahghbahcpfaaGreatDoor
