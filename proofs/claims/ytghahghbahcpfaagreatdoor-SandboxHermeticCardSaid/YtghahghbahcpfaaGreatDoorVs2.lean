/- The walks over slices.ContainsFunc at entries and over the execution's known. -/
import Derived.Test.YtghahghbahcpfaaGreatDoorVs1
import Derived.Test.YtghahghbahcpfaaGreatDoorVd2
import Derived.Test.YtghahghbahcpfaaGreatDoorVa2
import Derived.Lib.Builder
import Derived.Lib.AppendStr
import Derived.Lib.UnsafeStr
namespace Go.Proofs.YtghahghbahcpfaaGreatDoor
open Go.RowKit

set_option maxRecDepth 100000 in
theorem contf_e (g : Nat) (caps : Array Value) (p : EntM → Bool) (L : List EntM) (v : Value) (B : Nat → Prop) (hl : L.length ≤ 9223372036854775807) (w : World) (h : EEnt.Row B w L v)
    (hg : ∀ (k : Nat) (hk : k < L.length) (cs : List Value) (W : World), Below w.heap.size w W → EEnt.R B W L[k] cs → Calls Tryz.prog g (#[.agg cs.toArray] ++ caps) W fun e w' => e = .returned (.bool (p L[k])) ∧ Below W.heap.size W w')
    (eg : ∀ args w, (callFunc g args).run Tryz.prog w = .ok (.enter g args) w) :
    Calls Tryz.prog 124 #[v, .func (.func g) #[] caps] w fun e w' => e = .returned (.bool (L.any p)) ∧ Below w.heap.size w w' := by
  have IX := Lib.hid (ixf_e g caps p L v B hl w h hg eg)
  have HA : Hid (decide (0 ≤ idxI (fstI p L)) = L.any p) := by unfold Hid; rw [idxI_ge, fstI_some]
  obtain ⟨ao, cap, rfl⟩ := h.form
  clear h hg
  generalize idxI (fstI p L) = q at *
  go_enter Tryz.func124, Tryz.ntmps124
  go_wp2_with fail
  refine IX.out.mono ?_
  rintro e w5 ⟨rfl, hb⟩
  go_wp2_with fail
  go_ret
  exact ⟨by rw [← HA.out] <;> rfl, hb⟩
theorem strs_at {w : World} {L : List ByteArray} {ao : Option Addr} {n cap : Nat} {B : Nat → Prop} (h : EStr.Row B w L (.slice ao n cap)) {k : Nat} (hk : k < L.length) :
    ∃ b off, ao = some ⟨b, off, none⟩ ∧ b < w.heap.size ∧ w.cell? ⟨b, off + k, none⟩ = some (.string L[k]) := by
  obtain ⟨b, off, cs, rfl, _, h2, hc, hR⟩ := h.at hk
  have hR : cs = [Value.string L[k]] := hR
  subst hR
  have e0 : w.cell? ⟨b, off + k * 1 + 0, none⟩ = _ := hc 0 _ rfl
  rw [Nat.add_zero, Nat.mul_one] at e0
  exact ⟨b, off, rfl, h2, e0⟩
theorem keyF_at {v : ViewM} {n : Nat} (h : n < v.keys.length) : keyF v (n : Int) = v.keys[n] := by
  unfold keyF
  rw [show ((n : Nat) : Int).toNat = n from rfl, List.getD, List.getElem?_eq_getElem h]
  rfl
set_option maxRecDepth 100000 in
set_option maxHeartbeats 6400000 in
theorem known_any (n : Nat) (xb : Nat) (v : ViewM) (saves : List EntM) (kv sv cv : Value) (B C D : Nat → Prop) (hk : n < v.keys.length) (_hk9 : v.keys.length ≤ 1000000) (hs9 : saves.length ≤ 1000000) (_hc9 : v.caches.length ≤ 1000000) (hks : ∀ k ∈ v.keys, k.size ≤ 1000000) (w : World)
    (h42 : w.cell? ⟨xb, 42, none⟩ = some cv) (h43 : w.cell? ⟨xb, 43, none⟩ = some kv) (h55 : w.cell? ⟨xb, 55, none⟩ = some sv) (hK : EStr.Row B w v.keys kv) (hS : EEnt.Row C w saves sv) (hC : EEnt.Row D w v.caches cv) :
    Calls Tryz.prog 87 #[.pointer (some ⟨xb, 0, none⟩), .int .i64 (n : Nat)] w fun e w' => e = .returned (.bool (knownF v saves (n : Nat))) ∧ Below w.heap.size w w' := by
  obtain ⟨ko, kc, rfl⟩ := hK.form
  obtain ⟨so, sc, rfl⟩ := hS.form
  obtain ⟨co, cc, rfl⟩ := hC.form
  have hkey := keyF_at hk
  have hks1 := hks _ (List.getElem_mem hk)
  obtain ⟨kb, koff, rfl, hkb, y0⟩ := strs_at hK hk
  rw [← hkey] at y0 hks1
  have hnk : (n : Int) < (v.keys.length : Int) := by omega
  obtain ⟨w2, hw2⟩ : ∃ w2, w.alloc (.cells #[.string (keyF v (n : Nat))] 9 (0, 0)) = w2 := ⟨_, rfl⟩
  have hk2 : w2.heap[w.heap.size]? = some (.cells #[.string (keyF v (n : Nat))] 9 (0, 0)) := by rw [← hw2]; exact hp_new rfl
  have hz2 : w.heap.size < w2.heap.size := (Array.getElem?_eq_some_iff.1 hk2).1
  have hb2 : Below w.heap.size w w2 := by rw [← hw2]; exact (Below.refl _ w).alloc (Nat.le_refl _) _
  have cn : ∀ W, Below w2.heap.size w2 W → W.cell? ⟨w.heap.size, 0, none⟩ = some (.string (keyF v (n : Nat))) := fun W hb => cell_of_blk ((hb.block _ hz2).trans hk2) 0
  have CF := Lib.hid (contf_e 125 #[.pointer (some ⟨w.heap.size, 0, none⟩)] (fun x => decide (x.key = keyF v (n : Nat))) saves _ C (by omega) w2 (hS.below hb2) (fun k hk cs W hb hR => clo_e (keyF v (n : Nat)) w.heap.size C saves[k] cs W (cn W hb) hR) cloE_e)
  have c55 : w2.cell? ⟨xb, 55, none⟩ = some (.slice so saves.length sc) := (hb2.cell (p := ⟨xb, 55, none⟩) (World.block_lt_of_cell? w _ h55)).trans h55
  have HK : Hid (knownF v saves (n : Nat) = (saves.any (fun e => decide (e.key = keyF v (n : Nat))) || (match v.caches[n]? with
    | none => false
    | some e => decide (e.key = keyF v (n : Nat)) && decide (e.dig = memoF (keyF v (n : Nat)))))) := rfl
  have MM := fun W => Lib.hid (memo_any (keyF v (n : Nat)) hks1 W)
  have HMM : Hid (memoF (keyF v (n : Nat)) < 18446744073709551616) := ofN_lt _ _
  have HB2 := Lib.hid hb2
  have HCN := Lib.hid cn
  have HC := Lib.hid (hC.below hb2)
  have HW2 := Lib.hid hw2
  have H42 : Hid (∀ W, Below w2.heap.size w2 W → W.cell? ⟨xb, 42, none⟩ = some (.slice co v.caches.length cc)) := fun W hb => ((hb2.trans (hb.mono hb2.size)).cell (p := ⟨xb, 42, none⟩) (World.block_lt_of_cell? w _ h42)).trans h42
  generalize keyF v (n : Nat) = key at *
  generalize memoF key = mk at *
  generalize saves.any (fun e => decide (e.key = key)) = sa at *
  clear hkey hks1 hw2 hk2 hz2 hb2 cn hK hS hC hks h42 h55
  go_enter Tryz.func87, Tryz.ntmps87
  go_upto_region 2 with fail
  rw [HW2.out]
  clear HW2 y0 h43
  go_wp2_with fail
  refine CF.out.mono ?_
  rintro e w4 ⟨rfl, hb⟩
  have HB4 := Lib.hid hb
  clear hb CF c55
  cases sa with
  | true =>
    as_aux_lemma =>
    go_wp2_with fail
    go_ret
    exact ⟨by rw [HK.out] <;> rfl, HB2.out.trans (HB4.out.mono HB2.out.size)⟩
  | false =>
    have HDR : Hid (Below w4.heap.size w4 w4.drew) := (Below.refl _ _).drew
    have HB04 := Lib.hid (HB2.out.trans (HB4.out.mono HB2.out.size))
    by_cases hlt : n < v.caches.length
    · obtain ⟨bl, off, ce, rfl, _, hbl, hce, hvc⟩ := (HC.out.below HB4.out).at hlt
      have hii : (n : Int) < (v.caches.length : Int) := by omega
      have hcs : ce = [.string v.caches[n].proj, .int .i64 v.caches[n].trust, .string v.caches[n].ref, .string v.caches[n].key, .int .u64 (v.caches[n].dig : Nat), .int .i64 v.caches[n].size, .int .i64 v.caches[n].created, .int .i64 v.caches[n].used] := hvc
      subst hcs
      have e3 : w4.cell? ⟨bl, off + n * 8 + 3, none⟩ = _ := hce 3 _ rfl
      have e4 : w4.cell? ⟨bl, off + n * 8 + 4, none⟩ = _ := hce 4 _ rfl
      have HKN : Hid (knownF v saves (n : Nat) = (decide (v.caches[n].key = key) && decide (v.caches[n].dig = mk))) := by
        unfold Hid; rw [HK.out, List.getElem?_eq_getElem hlt]; rfl
      have HT := Lib.hid (tl_eq v.caches[n].key key)
      generalize v.caches[n].key = ckey at *
      generalize v.caches[n].dig = cdig at *
      have HS : Hid (∀ W' : World, Below w4.heap.size w4 W' → W'.cell? ⟨xb, 42, none⟩ = some (.slice (some ⟨bl, off, none⟩) v.caches.length cc) ∧ W'.cell? ⟨w.heap.size, 0, none⟩ = some (.string key) ∧ W'.cell? ⟨bl, off + n * 8 + 3, none⟩ = some (.string ckey) ∧ W'.cell? ⟨bl, off + n * 8 + 4, none⟩ = some (.int .u64 (cdig : Nat)) ∧ Below w4.heap.size w4 W') := fun W' hb => ⟨H42.out W' (HB4.out.trans (hb.mono HB4.out.size)), HCN.out W' (HB4.out.trans (hb.mono HB4.out.size)), (hb.cell (p := ⟨bl, off + n * 8 + 3, none⟩) hbl).trans e3, (hb.cell (p := ⟨bl, off + n * 8 + 4, none⟩) hbl).trans e4, hb⟩
      clear hce hvc e3 e4 HK
      by_cases hck : ckey = key
      · have t1 : (ckey.toList == key.toList) = true := by rw [HT.out, decide_eq_true hck]
        have t2 : ((cdig : Int) == (mk : Int)) = decide (cdig = mk) := by rw [Bool.eq_iff_iff, beq_iff_eq, decide_eq_true_eq]; omega
        have HKN : Hid (knownF v saves (n : Nat) = decide (cdig = mk)) := by unfold Hid; rw [HKN.out, decide_eq_true hck]; rfl
        clear hck HT
        as_aux_lemma =>
        go_upto_region 4 with fail
        refine wp_region_Z (S := fun W' : World => W'.cell? ⟨xb, 42, none⟩ = some (.slice (some ⟨bl, off, none⟩) v.caches.length cc) ∧ W'.cell? ⟨w.heap.size, 0, none⟩ = some (.string key) ∧ W'.cell? ⟨bl, off + n * 8 + 3, none⟩ = some (.string ckey) ∧ W'.cell? ⟨bl, off + n * 8 + 4, none⟩ = some (.int .u64 (cdig : Nat)) ∧ Below w4.heap.size w4 W') 35 (by kernel_rfl) (HS.out _ HDR.out) (fun hHeld => ?_)
        refine ztl 0 ?_
        try simp only [Act.put, zA, zB, zC]
        refine ztl 1 ?_
        try simp only [Act.put, zA, zB, zC]
        refine ztl 2 ?_
        try simp only [Act.put, zA, zB, zC]
        refine ztl 3 ?_
        try simp only [Act.put, zA, zB, zC]
        refine ztl 4 ?_
        try simp only [Act.put, zA, zB, zC]
        refine ztl 5 ?_
        try simp only [Act.put, zA, zB, zC]
        refine ztl 6 ?_
        try simp only [Act.put, zA, zB, zC]
        refine ztl 7 ?_
        try simp only [Act.put, zA, zB, zC]
        refine ztl 8 ?_
        try simp only [Act.put, zA, zB, zC]
        refine ztl 9 ?_
        try simp only [Act.put, zA, zB, zC]
        refine ztl 10 ?_
        try simp only [Act.put, zA, zB, zC]
        refine ztl 11 ?_
        try simp only [Act.put, zA, zB, zC]
        refine ztl 12 ?_
        try simp only [Act.put, zA, zB, zC]
        refine ztl 13 ?_
        try simp only [Act.put, zA, zB, zC]
        refine ztl 14 ?_
        try simp only [Act.put, zA, zB, zC]
        refine ztl 15 ?_
        try simp only [Act.put, zA, zB, zC]
        refine ztl 16 ?_
        try simp only [Act.put, zA, zB, zC]
        refine ztl 17 ?_
        try simp only [Act.put, zA, zB, zC]
        refine ztl 18 ?_
        try simp only [Act.put, zA, zB, zC]
        refine ztl 19 ?_
        try simp only [Act.put, zA, zB, zC]
        refine ztl 20 ?_
        try simp only [Act.put, zA, zB, zC]
        refine ztl 21 ?_
        try simp only [Act.put, zA, zB, zC]
        refine ztl 22 ?_
        try simp only [Act.put, zA, zB, zC]
        refine ztl 23 ?_
        try simp only [Act.put, zA, zB, zC]
        refine ztl 24 ?_
        try simp only [Act.put, zA, zB, zC]
        refine ztl 25 ?_
        try simp only [Act.put, zA, zB, zC]
        refine ztl 26 ?_
        try simp only [Act.put, zA, zB, zC]
        refine ztl 27 ?_
        try simp only [Act.put, zA, zB, zC]
        refine ztl 28 ?_
        try simp only [Act.put, zA, zB, zC]
        refine ztl 29 ?_
        try simp only [Act.put, zA, zB, zC]
        refine ztl 30 ?_
        try simp only [Act.put, zA, zB, zC]
        refine ztl 31 ?_
        try simp only [Act.put, zA, zB, zC]
        have hHeld0 := hHeld
        refine wpAnyZ_oneL (i := 32) (by kernel_rfl) rfl (fun K hK => ?_)
        go_simp
        go_at_call 15
        refine (MM _).out.mono ?_
        rintro e w5 ⟨rfl, hb5⟩
        have HB5 := Lib.hid (hHeld0.2.2.2.2.trans (hb5.mono hHeld0.2.2.2.2.size))
        clear hb5 hHeld0
        refine hK.out _ _ (fun _ => HS.out _ HB5.out) (fun hHeld => ?_)
        replace hHeld := hHeld (by decide)
        clear hK K
        try simp only [Act.put, zA, zB, zC]
        refine ztl 33 ?_
        try simp only [Act.put, zA, zB, zC]
        refine ztl 34 ?_
        try simp only [Act.put, zA, zB, zC]
        refine wpAnyZ_oneL (i := 35) (by kernel_rfl) rfl (fun K hK => ?_)
        go_simp
        refine hK.out _ _ (fun h => absurd h (by decide)) (fun _ => ?_)
        clear hK K
        try simp only [Act.put, zA, zB, zC]
        refine wpAnyZ_done (by kernel_rfl) ?_ _
        clear hHeld
        go_wp2_with fail
        go_ret
        exact ⟨by rw [HKN.out] <;> first | rfl | exact congrArg _ t2, HB04.out.trans (HB5.out.mono HB04.out.size)⟩
      · have t1 : (ckey.toList == key.toList) = false := by rw [HT.out, decide_eq_false hck]
        have HKN : Hid (knownF v saves (n : Nat) = false) := by unfold Hid; rw [HKN.out, decide_eq_false hck]; rfl
        clear hck HT
        as_aux_lemma =>
        go_upto_region 4 with fail
        refine wp_region_Z (S := fun W' : World => W'.cell? ⟨xb, 42, none⟩ = some (.slice (some ⟨bl, off, none⟩) v.caches.length cc) ∧ W'.cell? ⟨w.heap.size, 0, none⟩ = some (.string key) ∧ W'.cell? ⟨bl, off + n * 8 + 3, none⟩ = some (.string ckey) ∧ W'.cell? ⟨bl, off + n * 8 + 4, none⟩ = some (.int .u64 (cdig : Nat)) ∧ Below w4.heap.size w4 W') 35 (by kernel_rfl) (HS.out _ HDR.out) (fun hHeld => ?_)
        refine ztl 0 ?_
        try simp only [Act.put, zA, zB, zC]
        refine ztl 1 ?_
        try simp only [Act.put, zA, zB, zC]
        refine ztl 2 ?_
        try simp only [Act.put, zA, zB, zC]
        refine ztl 3 ?_
        try simp only [Act.put, zA, zB, zC]
        refine ztl 4 ?_
        try simp only [Act.put, zA, zB, zC]
        refine ztl 5 ?_
        try simp only [Act.put, zA, zB, zC]
        refine ztl 6 ?_
        try simp only [Act.put, zA, zB, zC]
        refine ztl 7 ?_
        try simp only [Act.put, zA, zB, zC]
        refine ztl 8 ?_
        try simp only [Act.put, zA, zB, zC]
        refine ztl 9 ?_
        try simp only [Act.put, zA, zB, zC]
        refine ztl 10 ?_
        try simp only [Act.put, zA, zB, zC]
        refine ztl 11 ?_
        try simp only [Act.put, zA, zB, zC]
        refine ztl 12 ?_
        try simp only [Act.put, zA, zB, zC]
        refine ztl 13 ?_
        try simp only [Act.put, zA, zB, zC]
        refine ztl 14 ?_
        try simp only [Act.put, zA, zB, zC]
        refine ztl 15 ?_
        try simp only [Act.put, zA, zB, zC]
        refine ztl 16 ?_
        try simp only [Act.put, zA, zB, zC]
        refine ztl 17 ?_
        try simp only [Act.put, zA, zB, zC]
        refine ztl 18 ?_
        try simp only [Act.put, zA, zB, zC]
        refine ztl 19 ?_
        try simp only [Act.put, zA, zB, zC]
        refine ztl 20 ?_
        try simp only [Act.put, zA, zB, zC]
        refine ztl 21 ?_
        try simp only [Act.put, zA, zB, zC]
        refine wpAnyZ_takeL (i := 22) (v := undef) rfl (by kernel_rfl) (by kernel_rfl) (by kernel_rfl) (by kernel_rfl) (fun _ _ _ h => h) (Or.inr ⟨by rfl, rfl⟩) (by assumption) ?_
        try simp only [Act.put, zA, zB, zC]
        refine wpAnyZ_takeL (i := 23) (v := undef) rfl (by kernel_rfl) (by kernel_rfl) (by kernel_rfl) (by kernel_rfl) (fun _ _ _ h => h) (Or.inr ⟨by rfl, rfl⟩) (by assumption) ?_
        try simp only [Act.put, zA, zB, zC]
        refine wpAnyZ_takeL (i := 24) (v := undef) rfl (by kernel_rfl) (by kernel_rfl) (by kernel_rfl) (by kernel_rfl) (fun _ _ _ h => h) (Or.inr ⟨by rfl, rfl⟩) (by assumption) ?_
        try simp only [Act.put, zA, zB, zC]
        refine wpAnyZ_takeL (i := 25) (v := undef) rfl (by kernel_rfl) (by kernel_rfl) (by kernel_rfl) (by kernel_rfl) (fun _ _ _ h => h) (Or.inr ⟨by rfl, rfl⟩) (by assumption) ?_
        try simp only [Act.put, zA, zB, zC]
        refine wpAnyZ_takeL (i := 26) (v := undef) rfl (by kernel_rfl) (by kernel_rfl) (by kernel_rfl) (by kernel_rfl) (fun _ _ _ h => h) (Or.inr ⟨by rfl, rfl⟩) (by assumption) ?_
        try simp only [Act.put, zA, zB, zC]
        refine wpAnyZ_takeL (i := 27) (v := undef) rfl (by kernel_rfl) (by kernel_rfl) (by kernel_rfl) (by kernel_rfl) (fun _ _ _ h => h) (Or.inr ⟨by rfl, rfl⟩) (by assumption) ?_
        try simp only [Act.put, zA, zB, zC]
        refine wpAnyZ_takeL (i := 28) (v := undef) rfl (by kernel_rfl) (by kernel_rfl) (by kernel_rfl) (by kernel_rfl) (fun _ _ _ h => h) (Or.inr ⟨by rfl, rfl⟩) (by assumption) ?_
        try simp only [Act.put, zA, zB, zC]
        refine wpAnyZ_takeL (i := 29) (v := undef) rfl (by kernel_rfl) (by kernel_rfl) (by kernel_rfl) (by kernel_rfl) (fun _ _ _ h => h) (Or.inr ⟨by rfl, rfl⟩) (by assumption) ?_
        try simp only [Act.put, zA, zB, zC]
        refine wpAnyZ_takeL (i := 30) (v := undef) rfl (by kernel_rfl) (by kernel_rfl) (by kernel_rfl) (by kernel_rfl) (fun _ _ _ h => h) (Or.inr ⟨by rfl, rfl⟩) (by assumption) ?_
        try simp only [Act.put, zA, zB, zC]
        refine wpAnyZ_takeL (i := 31) (v := undef) rfl (by kernel_rfl) (by kernel_rfl) (by kernel_rfl) (by kernel_rfl) (fun _ _ _ h => h) (Or.inr ⟨by rfl, rfl⟩) (by assumption) ?_
        try simp only [Act.put, zA, zB, zC]
        have hHeld0 := hHeld
        refine wpAnyZ_oneL (i := 32) (by kernel_rfl) rfl (fun K hK => ?_)
        rw [if_neg (by intro h; exact Bool.noConfusion (show false = true from h))]
        refine hK.out _ _ (fun _ => hHeld0) (fun hHeld => ?_)
        replace hHeld := hHeld (by decide)
        clear hK K
        try simp only [Act.put, zA, zB, zC]
        refine wpAnyZ_takeL (i := 33) (v := undef) rfl (by kernel_rfl) (by kernel_rfl) (by kernel_rfl) (by kernel_rfl) (fun _ _ _ h => h) (Or.inr ⟨by rfl, rfl⟩) (by assumption) ?_
        try simp only [Act.put, zA, zB, zC]
        refine ztl 34 ?_
        try simp only [Act.put, zA, zB, zC]
        refine wpAnyZ_oneL (i := 35) (by kernel_rfl) rfl (fun K hK => ?_)
        go_simp
        refine hK.out _ _ (fun h => absurd h (by decide)) (fun _ => ?_)
        clear hK K
        try simp only [Act.put, zA, zB, zC]
        refine wpAnyZ_done (by kernel_rfl) ?_ _
        clear hHeld
        go_wp2_with fail
        go_ret
        exact ⟨by rw [HKN.out] <;> rfl, HB04.out.trans (HDR.out.mono HB04.out.size)⟩
    · have hii : ¬ (n : Int) < (v.caches.length : Int) := by omega
      have HKN : Hid (knownF v saves (n : Nat) = false) := by unfold Hid; rw [HK.out, List.getElem?_eq_none (by omega)]; rfl
      have HS : Hid (∀ W' : World, Below w4.heap.size w4 W' → W'.cell? ⟨xb, 42, none⟩ = some (.slice co v.caches.length cc) ∧ W'.cell? ⟨w.heap.size, 0, none⟩ = some (.string key) ∧ Below w4.heap.size w4 W') := fun W' hb => ⟨H42.out W' (HB4.out.trans (hb.mono HB4.out.size)), HCN.out W' (HB4.out.trans (hb.mono HB4.out.size)), hb⟩
      clear HK
      as_aux_lemma =>
      go_upto_region 4 with fail
      refine wp_region_Z (S := fun W' : World => W'.cell? ⟨xb, 42, none⟩ = some (.slice co v.caches.length cc) ∧ W'.cell? ⟨w.heap.size, 0, none⟩ = some (.string key) ∧ Below w4.heap.size w4 W') 35 (by kernel_rfl) (HS.out _ HDR.out) (fun hHeld => ?_)
      refine ztl 0 ?_
      try simp only [Act.put, zA, zB, zC]
      refine ztl 1 ?_
      try simp only [Act.put, zA, zB, zC]
      refine ztl 2 ?_
      try simp only [Act.put, zA, zB, zC]
      refine ztl 3 ?_
      try simp only [Act.put, zA, zB, zC]
      refine ztl 4 ?_
      try simp only [Act.put, zA, zB, zC]
      refine ztl 5 ?_
      try simp only [Act.put, zA, zB, zC]
      refine ztl 6 ?_
      try simp only [Act.put, zA, zB, zC]
      refine ztl 7 ?_
      try simp only [Act.put, zA, zB, zC]
      refine ztl 8 ?_
      try simp only [Act.put, zA, zB, zC]
      refine wpAnyZ_takeL (i := 9) (v := undef) rfl (by kernel_rfl) (by kernel_rfl) (by kernel_rfl) (by kernel_rfl) (fun _ _ _ h => h) (Or.inr ⟨by rfl, rfl⟩) (by assumption) ?_
      try simp only [Act.put, zA, zB, zC]
      refine wpAnyZ_takeL (i := 10) (v := undef) rfl (by kernel_rfl) (by kernel_rfl) (by kernel_rfl) (by kernel_rfl) (fun _ _ _ h => h) (Or.inr ⟨by rfl, rfl⟩) (by assumption) ?_
      try simp only [Act.put, zA, zB, zC]
      refine wpAnyZ_takeL (i := 11) (v := undef) rfl (by kernel_rfl) (by kernel_rfl) (by kernel_rfl) (by kernel_rfl) (fun _ _ _ h => h) (Or.inr ⟨by rfl, rfl⟩) (by assumption) ?_
      try simp only [Act.put, zA, zB, zC]
      refine wpAnyZ_takeL (i := 12) (v := undef) rfl (by kernel_rfl) (by kernel_rfl) (by kernel_rfl) (by kernel_rfl) (fun _ _ _ h => h) (Or.inr ⟨by rfl, rfl⟩) (by assumption) ?_
      try simp only [Act.put, zA, zB, zC]
      refine wpAnyZ_takeL (i := 13) (v := undef) rfl (by kernel_rfl) (by kernel_rfl) (by kernel_rfl) (by kernel_rfl) (fun _ _ _ h => h) (Or.inr ⟨by rfl, rfl⟩) (by assumption) ?_
      try simp only [Act.put, zA, zB, zC]
      refine wpAnyZ_takeL (i := 14) (v := undef) rfl (by kernel_rfl) (by kernel_rfl) (by kernel_rfl) (by kernel_rfl) (fun _ _ _ h => h) (Or.inr ⟨by rfl, rfl⟩) (by assumption) ?_
      try simp only [Act.put, zA, zB, zC]
      refine wpAnyZ_takeL (i := 15) (v := undef) rfl (by kernel_rfl) (by kernel_rfl) (by kernel_rfl) (by kernel_rfl) (fun _ _ _ h => h) (Or.inr ⟨by rfl, rfl⟩) (by assumption) ?_
      try simp only [Act.put, zA, zB, zC]
      refine wpAnyZ_takeL (i := 16) (v := undef) rfl (by kernel_rfl) (by kernel_rfl) (by kernel_rfl) (by kernel_rfl) (fun _ _ _ h => h) (Or.inr ⟨by rfl, rfl⟩) (by assumption) ?_
      try simp only [Act.put, zA, zB, zC]
      refine wpAnyZ_takeL (i := 17) (v := undef) rfl (by kernel_rfl) (by kernel_rfl) (by kernel_rfl) (by kernel_rfl) (fun _ _ _ h => h) (Or.inr ⟨by rfl, rfl⟩) (by assumption) ?_
      try simp only [Act.put, zA, zB, zC]
      refine wpAnyZ_takeL (i := 18) (v := undef) rfl (by kernel_rfl) (by kernel_rfl) (by kernel_rfl) (by kernel_rfl) (fun _ _ _ h => h) (Or.inr ⟨by rfl, rfl⟩) (by assumption) ?_
      try simp only [Act.put, zA, zB, zC]
      refine wpAnyZ_takeL (i := 19) (v := undef) rfl (by kernel_rfl) (by kernel_rfl) (by kernel_rfl) (by kernel_rfl) (fun _ _ _ h => h) (Or.inr ⟨by rfl, rfl⟩) (by assumption) ?_
      try simp only [Act.put, zA, zB, zC]
      refine ztl 20 ?_
      try simp only [Act.put, zA, zB, zC]
      refine ztl 21 ?_
      try simp only [Act.put, zA, zB, zC]
      refine wpAnyZ_takeL (i := 22) (v := undef) rfl (by kernel_rfl) (by kernel_rfl) (by kernel_rfl) (by kernel_rfl) (fun _ _ _ h => h) (Or.inr ⟨by rfl, rfl⟩) (by assumption) ?_
      try simp only [Act.put, zA, zB, zC]
      refine wpAnyZ_takeL (i := 23) (v := undef) rfl (by kernel_rfl) (by kernel_rfl) (by kernel_rfl) (by kernel_rfl) (fun _ _ _ h => h) (Or.inr ⟨by rfl, rfl⟩) (by assumption) ?_
      try simp only [Act.put, zA, zB, zC]
      refine wpAnyZ_takeL (i := 24) (v := undef) rfl (by kernel_rfl) (by kernel_rfl) (by kernel_rfl) (by kernel_rfl) (fun _ _ _ h => h) (Or.inr ⟨by rfl, rfl⟩) (by assumption) ?_
      try simp only [Act.put, zA, zB, zC]
      refine wpAnyZ_takeL (i := 25) (v := undef) rfl (by kernel_rfl) (by kernel_rfl) (by kernel_rfl) (by kernel_rfl) (fun _ _ _ h => h) (Or.inr ⟨by rfl, rfl⟩) (by assumption) ?_
      try simp only [Act.put, zA, zB, zC]
      refine wpAnyZ_takeL (i := 26) (v := undef) rfl (by kernel_rfl) (by kernel_rfl) (by kernel_rfl) (by kernel_rfl) (fun _ _ _ h => h) (Or.inr ⟨by rfl, rfl⟩) (by assumption) ?_
      try simp only [Act.put, zA, zB, zC]
      refine wpAnyZ_takeL (i := 27) (v := undef) rfl (by kernel_rfl) (by kernel_rfl) (by kernel_rfl) (by kernel_rfl) (fun _ _ _ h => h) (Or.inr ⟨by rfl, rfl⟩) (by assumption) ?_
      try simp only [Act.put, zA, zB, zC]
      refine wpAnyZ_takeL (i := 28) (v := undef) rfl (by kernel_rfl) (by kernel_rfl) (by kernel_rfl) (by kernel_rfl) (fun _ _ _ h => h) (Or.inr ⟨by rfl, rfl⟩) (by assumption) ?_
      try simp only [Act.put, zA, zB, zC]
      refine wpAnyZ_takeL (i := 29) (v := undef) rfl (by kernel_rfl) (by kernel_rfl) (by kernel_rfl) (by kernel_rfl) (fun _ _ _ h => h) (Or.inr ⟨by rfl, rfl⟩) (by assumption) ?_
      try simp only [Act.put, zA, zB, zC]
      refine wpAnyZ_takeL (i := 30) (v := undef) rfl (by kernel_rfl) (by kernel_rfl) (by kernel_rfl) (by kernel_rfl) (fun _ _ _ h => h) (Or.inr ⟨by rfl, rfl⟩) (by assumption) ?_
      try simp only [Act.put, zA, zB, zC]
      refine wpAnyZ_takeL (i := 31) (v := undef) rfl (by kernel_rfl) (by kernel_rfl) (by kernel_rfl) (by kernel_rfl) (fun _ _ _ h => h) (Or.inr ⟨by rfl, rfl⟩) (by assumption) ?_
      try simp only [Act.put, zA, zB, zC]
      have hHeld0 := hHeld
      refine wpAnyZ_oneL (i := 32) (by kernel_rfl) rfl (fun K hK => ?_)
      rw [if_neg (by intro h; exact Bool.noConfusion (show false = true from h))]
      refine hK.out _ _ (fun _ => hHeld0) (fun hHeld => ?_)
      replace hHeld := hHeld (by decide)
      clear hK K
      try simp only [Act.put, zA, zB, zC]
      refine wpAnyZ_takeL (i := 33) (v := undef) rfl (by kernel_rfl) (by kernel_rfl) (by kernel_rfl) (by kernel_rfl) (fun _ _ _ h => h) (Or.inr ⟨by rfl, rfl⟩) (by assumption) ?_
      try simp only [Act.put, zA, zB, zC]
      refine ztl 34 ?_
      try simp only [Act.put, zA, zB, zC]
      refine wpAnyZ_oneL (i := 35) (by kernel_rfl) rfl (fun K hK => ?_)
      go_simp
      refine hK.out _ _ (fun h => absurd h (by decide)) (fun _ => ?_)
      clear hK K
      try simp only [Act.put, zA, zB, zC]
      refine wpAnyZ_done (by kernel_rfl) ?_ _
      clear hHeld
      go_wp2_with fail
      go_ret
      exact ⟨by rw [HKN.out] <;> rfl, HB04.out.trans (HDR.out.mono HB04.out.size)⟩
end Go.Proofs.YtghahghbahcpfaaGreatDoor
/- strings.Builder as a field of the execution: copyCheck, WriteString. -/
namespace Go.Proofs.YtghahghbahcpfaaGreatDoor
open Go.RowKit Go.Lib

abbrev tX : TypeId := 93
theorem Tryz.infoBld : (Tryz.prog.info? 91).map (·.size) = some 2 := by kernel_rfl
theorem Tryz.liesBld : liesAt Tryz.prog Tryz.prog.depth tX (57 / Tryz.prog.cellsOf tX) 50 91 1 = true := by kernel_rfl
/-- a pointer to the builder -/
abbrev bP (b : Nat) : Value := .pointer (some ⟨b, 50, none⟩)
set_option maxRecDepth 100000 in
set_option maxHeartbeats 1600000 in
theorem bcheck_any (b : Nat) (cs : Array Value) (w : World) (hb : w.heap[b]? = some (.cells cs tX (0, 0))) (hs : cs.size = 57) (h50 : cs[50]? = some (.pointer none) ∨ cs[50]? = some (bP b)) :
    Calls Tryz.prog 132 #[bP b] w fun e w' => e = .returned (.tuple #[]) ∧ Wrote b (.cells (cs.setIfInBounds 50 (bP b)) tX (0, 0)) w w' := by
  obtain ⟨j, hj, hjs⟩ := Option.map_eq_some_iff.1 Tryz.infoBld
  rcases h50 with h0 | h0
  · have c0 : w.cell? ⟨b, 50, none⟩ = some (.pointer none) := (cell_of_blk hb 50).trans h0
    have f0 := free_of_blk hb 50
    have hsh : w.shape? b = some (tX, 57) := by rw [← hs]; simp [World.shape?, hb]
    have HW := Lib.hid (wrote_setCell hb 50 (bP b))
    have e1 := Lib.run_to_unsafe (P := Tryz.prog) w ⟨b, 50, none⟩ Tryz.underlying89 Tryz.underlying216 hj (by rw [hjs]; decide) hsh (show 50 < 57 by decide)
    have e2 := Lib.run_from_unsafe (P := Tryz.prog) w ⟨b, 50, none⟩ Tryz.underlying216 Tryz.underlying89 hj hsh Tryz.liesBld
    clear hb h0 hs hsh
    go_enter Tryz.func132, Tryz.ntmps132
    go_wp2
    rw [run_callFunc_extern Tryz.func153 (by kernel_rfl) (by kernel_rfl) (by kernel_rfl) (e := Extern.AbiNoEscape.same) (by kernel_rfl), Lib.run_noEscape]
    simp only [Result.andThen]
    rw [Oper.upon_value]
    go_wp2
    go_end0
    exact ⟨rfl, HW.out⟩
  · have c0 : w.cell? ⟨b, 50, none⟩ = some (bP b) := (cell_of_blk hb 50).trans h0
    have HW : Hid (Wrote b (.cells (cs.setIfInBounds 50 (bP b)) tX (0, 0)) w w) := by
      have : cs.setIfInBounds 50 (bP b) = cs := by
        apply Array.ext_getElem?
        intro i
        rw [Array.getElem?_setIfInBounds]
        by_cases h : 50 = i
        · subst h; rw [if_pos rfl, if_pos (by omega), h0]
        · rw [if_neg h]
      unfold Hid
      rw [this]
      exact ⟨rfl, rfl, rfl, rfl, hb, fun _ _ => rfl⟩
    have e1 := Lib.run_neq_ptr_same (P := Tryz.prog) w ⟨b, 50, none⟩ Tryz.underlying89 hj
    clear hb h0 hs
    go_enter Tryz.func132, Tryz.ntmps132
    go_wp2
    go_end0
    exact ⟨rfl, HW.out⟩
/-- the log's buffer -/
def LogOwn (b : Nat) (l : List UInt8) (v : Value) (w : World) : Prop := w.ownsRow (b + 1) 5 1 v l.length (Lib.byteCells l)
structure Grew (b : Nat) (v : Value) (w w' : World) : Prop where
  os : w'.os = w.os
  tape : w'.tape = w.tape
  output : w'.output = w.output
  size : w.heap.size ≤ w'.heap.size
  block : ∀ k, k < w.heap.size → k ≠ b → v.ownBlock ≠ some k → w'.heap[k]? = w.heap[k]?
theorem infoU8 : ∃ i, Tryz.prog.info? 5 = some i ∧ i.zero = some (.int .u8 0) ∧ i.size = 1 ∧ i.bytes = 1 := info_parts (by kernel_rfl)
set_option maxRecDepth 100000 in
set_option maxHeartbeats 1600000 in
theorem bwrite_any (b : Nat) (cs : Array Value) (l : List UInt8) (v : Value) (s : ByteArray) (w : World) (hb : w.heap[b]? = some (.cells cs tX (0, 0))) (hs : cs.size = 57) (h50 : cs[50]? = some (.pointer none) ∨ cs[50]? = some (bP b)) (h51 : cs[51]? = some v) (hO : LogOwn b l v w) (hlen : l.length + s.size ≤ 140737488355328) :
    Calls Tryz.prog 92 #[bP b, .string s] w fun e w' => ∃ v', e = .returned (.tuple #[.int .i64 s.size, .nilIface]) ∧ w'.heap[b]? = some (.cells ((cs.setIfInBounds 50 (bP b)).setIfInBounds 51 v') tX (0, 0)) ∧ LogOwn b (l ++ s.data.toList) v' w' ∧ Grew b v w w' := by
  have CC := Lib.hid (bcheck_any b cs w hb hs h50)
  obtain ⟨i5, hi5⟩ := infoU8
  have HI := Lib.hid hi5
  have HO := Lib.hid hO
  have H51 := Lib.hid h51
  have HS := Lib.hid hs
  have HBL : Hid (b < w.heap.size) := (Array.getElem?_eq_some_iff.1 hb).1
  have HNB : Hid (v.ownBlock ≠ some b) := fun e => by have := (hO.lt b e).1; omega
  clear hb hs h50 h51 hO hi5
  go_enter Tryz.func92, Tryz.ntmps92
  go_wp2_with fail
  refine CC.out.mono ?_
  rintro e w1 ⟨rfl, hw1⟩
  have c51 : w1.cell? ⟨b, 51, none⟩ = some v := by rw [cell_of_blk hw1.at_, Array.getElem?_setIfInBounds_ne (by decide)]; exact H51.out
  have hO1 : w1.ownsRow (b + 1) 5 1 v l.length (Lib.byteCells l) := by
    exact ownsRow_wrote HO.out hw1 (Nat.lt_succ_self b)
  have HW1 := Lib.hid hw1
  have hz1 : b + 1 ≤ w1.heap.size := by rw [hw1.size]; exact HBL.out
  clear hw1 CC
  go_wp2_with (at_builtin; refine Lib.wpList_append_own_string _ rfl _ _ 78 9 rfl (b + 1) 5 i5 Tryz.underlying78 Tryz.underlying9 HI.out.1 HI.out.2.1 HI.out.2.2.1 HI.out.2.2.2 _ _ _ rfl hO1 s rfl ?c3 ?c4 ?c5 ?_)
  case c3 => unfold maxLen; omega
  case c4 => omega
  case c5 => exact hz1
  intro v' w2 hown' hgrow _
  have hlt1 : b < w1.heap.size := by omega
  have hb2 : w2.heap[b]? = some (.cells (cs.setIfInBounds 50 (bP b)) tX (0, 0)) := (hgrow.block b hlt1 (fun e => HNB.out e.symm)).trans HW1.out.at_
  have f51 := free_of_blk hb2 51
  have d51 : w2.cell? ⟨b, 51, none⟩ = some v := by rw [cell_of_blk hb2, Array.getElem?_setIfInBounds_ne (by decide)]; exact H51.out

  obtain ⟨ao', cap', rfl⟩ := ownsRow_form hown'
  have hw9 := wrote_setCell hb2 51 (.slice ao' (l.length + s.size) cap')
  have HO9 : Hid (LogOwn b (l ++ s.data.toList) (.slice ao' (l.length + s.size) cap') (w2.setCell ⟨b, 51, none⟩ (.slice ao' (l.length + s.size) cap'))) := by
    have h1 := ownsRow_wrote hown' hw9 (Nat.lt_succ_self b)
    unfold Hid LogOwn
    have e1 : (l ++ s.data.toList).length = l.length + s.size := by rw [List.length_append]; rfl
    have e2 : Lib.byteCells (l ++ s.data.toList) = Lib.byteCells l ++ Lib.strCells s := by simp [Lib.byteCells, Lib.strCells]
    rw [e1, e2]
    exact h1
  have HG9 : Hid (Grew b v w (w2.setCell ⟨b, 51, none⟩ (.slice ao' (l.length + s.size) cap'))) := ⟨hw9.os.trans (hgrow.os.trans HW1.out.os), hw9.tape.trans (hgrow.tape.trans HW1.out.tape), hw9.output.trans (hgrow.output.trans HW1.out.output),
    by rw [hw9.size]; exact Nat.le_trans (Nat.le_of_eq HW1.out.size.symm) hgrow.size,
    fun k hk hkb hkv => (hw9.block k hkb).trans ((hgrow.block k (by rw [HW1.out.size]; exact hk) (fun e => hkv e.symm)).trans (HW1.out.block k hkb))⟩
  have HA9 := Lib.hid hw9.at_
  clear hown' hgrow hb2 hw9 c51 hO1 HW1
  go_wp2
  go_ret2
  exact ⟨_, rfl, HA9.out, HO9.out, HG9.out⟩
end Go.Proofs.YtghahghbahcpfaaGreatDoor
/- strings.Builder as a field of the execution: String. -/
namespace Go.Proofs.YtghahghbahcpfaaGreatDoor
open Go.RowKit Go.Lib

/-- all blocks but one are kept -/
structure Kept1 (v : Value) (w w' : World) : Prop where
  os : w'.os = w.os
  tape : w'.tape = w.tape
  output : w'.output = w.output
  size : w.heap.size ≤ w'.heap.size
  block : ∀ k, k < w.heap.size → v.ownBlock ≠ some k → w'.heap[k]? = w.heap[k]?
theorem Kept1.drew (v : Value) (w : World) : Kept1 v w w.drew := ⟨rfl, rfl, rfl, Nat.le_refl _, fun _ _ _ => rfl⟩
theorem Kept1.freeze {g n cap m : Nat} (w : World) : Kept1 (.slice (some ⟨g, 0, none⟩) m cap) w (w.drew.freeze ⟨g, 0, none⟩ n) := by
  unfold World.freeze
  split
  · exact Kept1.drew _ _
  · exact ⟨rfl, rfl, rfl, by simp, fun k hk hne => by
      have : g ≠ k := fun e => hne (by rw [← e]; rfl)
      simp only [Array.getElem?_modify]
      rw [if_neg (by intro e; exact this e)]
      rfl⟩
theorem Tryz.cells5 : Tryz.prog.cellsOf 5 = 1 := by kernel_rfl
set_option maxRecDepth 100000 in
set_option maxHeartbeats 1600000 in
theorem bstring_any (b : Nat) (cs : Array Value) (l : List UInt8) (v : Value) (w : World) (hb : w.heap[b]? = some (.cells cs tX (0, 0))) (h51 : cs[51]? = some v) (hO : LogOwn b l v w) (hlen : l.length ≤ 140737488355328) :
    Calls Tryz.prog 64 #[bP b] w fun e w' => e = .returned (.string ⟨l.toArray⟩) ∧ Kept1 v w w' := by
  have c51 : w.cell? ⟨b, 51, none⟩ = some v := (cell_of_blk hb 51).trans h51
  have hlt : b < w.heap.size := (Array.getElem?_eq_some_iff.1 hb).1
  rcases hO.2 with ⟨rfl, h0⟩ | ⟨g, cap, cur, rfl, hg, hbk, hn, hcap, hsz, htk⟩
  · have hl : l = [] := List.length_eq_zero_iff.1 h0
    subst hl
    have c1 : w.drew.cell? ⟨b, 51, none⟩ = some (.slice none 0 0) := c51
    have hSD : (Builtin.unsafeSliceData_ #[78] 155 #[.slice none 0 0]).run Tryz.prog w.drew = .ok (.pointer none) w.drew := rfl
    have hUS : ∀ q W, (Builtin.unsafeString_ #[155, 3] 9 #[.pointer q, .int .i64 0]).run Tryz.prog W = .ok (.string .empty) W := fun q W => Lib.run_unsafeString_none W _ _ _ q
    have HK := Lib.hid (Kept1.drew (.slice none 0 0) w)
    clear hb h51 hO h0 hlen
    go_enter Tryz.func64, Tryz.ntmps64
    go_wp2
    go_region
    all_goals (go_wp2; go_ret; exact ⟨rfl, HK.out⟩)
  · have hxs : ∀ j x, l[j]? = some x → w.cell? ((⟨g, 0, none⟩ : Addr).add j) = some (.int .u8 x.toNat) := by
      intro j x hx
      have hj := (List.getElem?_eq_some_iff.1 hx).1
      have e : (⟨g, 0, none⟩ : Addr).add j = ⟨g, j, none⟩ := by unfold Addr.add; split <;> simp_all
      rw [e, cell_of_blk hbk]
      have : (Lib.byteCells l)[j]? = some (.int .u8 x.toNat) := by unfold Lib.byteCells; rw [List.getElem?_map, hx]; rfl
      rw [← htk, List.getElem?_take_of_lt (by omega)] at this
      rw [← Array.getElem?_toList]
      exact this
    by_cases hl : l = []
    · subst hl
      by_cases hc : cap = 0
      · subst hc
        have c1 : w.drew.cell? ⟨b, 51, none⟩ = some (.slice (some ⟨g, 0, none⟩) 0 0) := c51
        have hSD : (Builtin.unsafeSliceData_ #[78] 155 #[.slice (some ⟨g, 0, none⟩) 0 0]).run Tryz.prog w.drew = .ok (.pointer (some ⟨w.drew.heap.size, 0, none⟩)) (w.drew.alloc (.view ⟨g, 0, none⟩ 5)) :=
          Lib.run_unsafeSliceData_zero w.drew _ _ 5 Tryz.underlying155 ⟨g, 0, none⟩ 0 (5, cur.size) (by have hg' : w.drew.heap[g]? = some (.cells cur 5 (0, 0)) := hbk; simp [World.shape?, hg'])
        have c2 : (w.drew.alloc (.view ⟨g, 0, none⟩ 5)).cell? ⟨b, 51, none⟩ = some (.slice (some ⟨g, 0, none⟩) 0 0) := by
          have : (w.drew.alloc (.view ⟨g, 0, none⟩ 5)).heap[b]? = _ := (Lib.alloc_old w.drew _ b hlt).trans hb
          rw [cell_of_blk this]; exact h51
        have c3 : (w.alloc (.view ⟨g, 0, none⟩ 5)).drew.cell? ⟨b, 51, none⟩ = some (.slice (some ⟨g, 0, none⟩) 0 0) := c2
        have hUS : ∀ q W, (Builtin.unsafeString_ #[155, 3] 9 #[.pointer q, .int .i64 0]).run Tryz.prog W = .ok (.string .empty) W := fun q W => Lib.run_unsafeString_none W _ _ _ q
        have HK : Hid (Kept1 (.slice (some ⟨g, 0, none⟩) 0 0) w (w.drew.alloc (.view ⟨g, 0, none⟩ 5))) := ⟨rfl, rfl, rfl, by simp, fun k hk _ => Lib.alloc_old w.drew _ k hk⟩
        clear hb h51 hO hlen hxs hbk hsz htk
        go_enter Tryz.func64, Tryz.ntmps64
        go_wp2
        go_region
        all_goals (go_wp2; go_ret; exact ⟨rfl, HK.out⟩)
      · have c1 : w.drew.cell? ⟨b, 51, none⟩ = some (.slice (some ⟨g, 0, none⟩) 0 cap) := c51
        have hSD : (Builtin.unsafeSliceData_ #[78] 155 #[.slice (some ⟨g, 0, none⟩) 0 cap]).run Tryz.prog w.drew = .ok (.pointer (some ⟨g, 0, none⟩)) w.drew := Lib.run_unsafeSliceData_row _ _ _ _ _ _ hc
        have hUS : ∀ q W, (Builtin.unsafeString_ #[155, 3] 9 #[.pointer q, .int .i64 0]).run Tryz.prog W = .ok (.string .empty) W := fun q W => Lib.run_unsafeString_none W _ _ _ q
        have HK := Lib.hid (Kept1.drew (.slice (some ⟨g, 0, none⟩) 0 cap) w)
        clear hb h51 hO hlen hxs hbk hsz htk hc
        go_enter Tryz.func64, Tryz.ntmps64
        go_wp2
        go_region
        all_goals (go_wp2; go_ret; exact ⟨rfl, HK.out⟩)
    · have hc : cap ≠ 0 := by
        intro e
        subst e
        exact hl (List.length_eq_zero_iff.1 (by omega))
      have c1 : w.drew.cell? ⟨b, 51, none⟩ = some (.slice (some ⟨g, 0, none⟩) l.length cap) := c51
      have hSD : (Builtin.unsafeSliceData_ #[78] 155 #[.slice (some ⟨g, 0, none⟩) l.length cap]).run Tryz.prog w.drew = .ok (.pointer (some ⟨g, 0, none⟩)) w.drew := Lib.run_unsafeSliceData_row _ _ _ _ _ _ hc
      have hUS : (Builtin.unsafeString_ #[155, 3] 9 #[.pointer (some ⟨g, 0, none⟩), .int .i64 l.length]).run Tryz.prog w.drew = .ok (.string ⟨l.toArray⟩) (w.drew.freeze ⟨g, 0, none⟩ l.length) :=
        Lib.run_unsafeString_row w.drew _ _ _ 5 Tryz.underlying155 Tryz.cells5 g cur.size (by have hg' : w.drew.heap[g]? = some (.cells cur 5 (0, 0)) := hbk; simp [World.shape?, hg']) l hl (by omega) (by omega) hxs
      have HK := Lib.hid (Kept1.freeze (g := g) (n := l.length) (m := l.length) (cap := cap) w)
      clear hb h51 hO hlen hxs hbk hsz htk hc hl
      go_enter Tryz.func64, Tryz.ntmps64
      go_wp2
      go_region
      all_goals (go_wp2; go_ret; exact ⟨rfl, HK.out⟩)
end Go.Proofs.YtghahghbahcpfaaGreatDoor
