/- The walk over value.walk: the nodes of a value, handed one by one to a round. -/
import Derived.Test.YtomecnncighkgaaGreatDoorVcm
import Derived.RangeFuncNested
import Derived.RangeFuncBound
import Derived.RangeFuncCalls
import Derived.RangeFuncLeaves
import Derived.Shelf.Abstract
import Derived.Shelf.RegionOpen
import Derived.WalkKit
import Derived.OwnWalkIn
import Derived.TacticsInMore
import Derived.LoopNIn
import Derived.LoopIn
namespace Go.Proofs.YtomecnncighkgaaGreatDoor
open Go.RowKit Go.Shelf

attribute [local go_sem] Oper.semAt_some

theorem vcell_slices {w : World} {t : VT} {cs : List Value} (h : VCell w t cs) : ∃ k b n s lo ln lc ko kn kc, cs = [.int .i64 k, .bool b, .int .i64 n, .string s, .slice lo ln lc, .slice ko kn kc] := by
  cases t
  rw [vcell_mk] at h
  obtain ⟨lv, kv, rfl, h1, h2⟩ := h
  obtain ⟨ko, kc, rfl⟩ := h1.form
  obtain ⟨lo, lc, rfl⟩ := vlist_slice h2
  exact ⟨_, _, _, _, _, _, _, _, _, _, rfl⟩
/-- every block from a place on keeps what it holds -/
structure Kept (B : Nat) (w w1 : World) : Prop where
  size : w.heap.size ≤ w1.heap.size
  block : ∀ k, B ≤ k → k < w.heap.size → w1.heap[k]? = w.heap[k]?
theorem Kept.refl (B : Nat) (w : World) : Kept B w w := ⟨Nat.le_refl _, fun _ _ _ => rfl⟩
theorem Kept.trans {B : Nat} {w w1 w2 : World} (h : Kept B w w1) (k : Kept B w1 w2) : Kept B w w2 :=
  ⟨Nat.le_trans h.size k.size, fun j hB hj => (k.block j hB (Nat.lt_of_lt_of_le hj h.size)).trans (h.block j hB hj)⟩
theorem Kept.below {B : Nat} {w w1 : World} (h : Below w.heap.size w w1) : Kept B w w1 := ⟨h.size, fun k _ hk => h.block k hk⟩
theorem yield_wide {n m : Nat} {P : Program} {l : Nat} {args : Array Value} {W : World} {R : Ending → World → Prop} (h : YieldAt Fence.wide n P l args W R) : YieldAt Fence.wide m P l args W R := by
  obtain ⟨fn, tmps, assign, body, hy, h1, h2⟩ := h
  exact ⟨fn, tmps, assign, body, hy, h1, fun c cs _ => h2 c cs (room_wide _)⟩
/-- walk of a value that lies in memory, J the law over the nodes that are still to come -/
def WalkPost (B0 : Nat) (J : List (Nat × VT) → World → Prop) (Jx : World → Prop) (R : List (Nat × VT)) (W : World) (e : Ending) (W' : World) : Prop :=
  ((e = .returned (.bool true) ∧ J R W') ∨ (e = .returned (.bool false) ∧ Jx W')) ∧ Kept B0 W W'
def WalkCalls (W0 : World) (l B0 : Nat) (J : List (Nat × VT) → World → Prop) (Jx : World → Prop) (t : VT) : Prop :=
  ∀ lv : Nat, lv ≤ 17 → ∀ cs R W, VCell W0 t cs → B0 ≤ W.heap.size → J (t.nodes lv ++ R) W → Calls Tryz.prog 124 #[.agg cs.toArray, .int .i64 (lv : Nat), .func (.yield l) #[] #[]] W (WalkPost B0 J Jx R W)
set_option maxRecDepth 100000 in
set_option maxHeartbeats 3200000 in
theorem walk_it (W0 : World) (l B0 : Nat) (J : List (Nat × VT) → World → Prop) (Jx : World → Prop)
    (h0 : ∀ R W, J R W → Below W0.heap.size W0 W)
    (hG : ∀ R W W', J R W → Below W.heap.size W W' → J R W')
    (hY : ∀ lv t v R W, lv ≤ 17 → VAt W0 v t → J ((lv, t) :: R) W → YieldAt Fence.wide 0 Tryz.prog l #[.int .i64 (lv : Nat), v] W fun e W' => ((e = .returned (.bool true) ∧ lv ≤ 16 ∧ J R W') ∨ (e = .returned (.bool false) ∧ Jx W')) ∧ Kept B0 W W')
    (k : Int) (b : Bool) (n : Int) (s : ByteArray) (LL : List VT) (ks : List ByteArray) (hll : LL.length ≤ 9223372036854775807) (ih : ∀ t ∈ LL, WalkCalls W0 l B0 J Jx t) : WalkCalls W0 l B0 J Jx (.mk k b n s LL ks) := by
  intro lv hlv cs R W hc hB hj
  rw [VT.nodes] at hj
  have hva : VAt W0 (.agg cs.toArray) (.mk k b n s LL ks) := ⟨cs, rfl, hc⟩
  rw [vcell_mk] at hc
  obtain ⟨v4, v5, rfl, hs, hL⟩ := hc
  obtain ⟨lo, lc, rfl⟩ := vlist_slice hL
  refine (callsIn_wide (n := 10)).1 (callsIn_of_wp Tryz.func124 rfl trivial ?_ rfl)
  simp only [Tryz.ntmps124, List.size_toArray, List.length_cons, List.length_nil, Nat.reduceAdd, Nat.reduceSub, Array.replicate_succ, Array.replicate_zero, List.push_toArray, List.append_toArray, List.nil_append, List.cons_append]
  have hj1 := hG _ _ (W.alloc (.cells #[.int .i64 k, .bool b, .int .i64 n, .string s, .slice lo LL.length lc, v5] 46)) hj ((Below.refl _ W).alloc (Nat.le_refl _) _)
  obtain ⟨fn, tmps, assign, body, hy, hR⟩ := yield_wide (m := 10 - 1) (hY lv _ _ _ _ hlv hva hj1)
  have hbx : (W.alloc (.cells #[.int .i64 k, .bool b, .int .i64 n, .string s, .slice lo LL.length lc, v5] 46)).heap[W.heap.size]? = some (.cells #[.int .i64 k, .bool b, .int .i64 n, .string s, .slice lo LL.length lc, v5] 46) := hp_new rfl
  have HBX := Lib.hid hbx
  have HZ := Lib.hid (alloc_lt W (.cells #[.int .i64 k, .bool b, .int .i64 n, .string s, .slice lo LL.length lc, v5] 46))
  have HKP : Hid (Kept B0 W (W.alloc (.cells #[.int .i64 k, .bool b, .int .i64 n, .string s, .slice lo LL.length lc, v5] 46))) := Kept.below ((Below.refl _ W).alloc (Nat.le_refl _) _)
  have HBB := Lib.hid hB
  have HL := Lib.hid hL
  have IH := Lib.hid ih
  have HG := Lib.hid hG
  have H0 := Lib.hid h0
  clear hj hj1 hva hbx hs hL ih hB hG h0 hY
  gi_wp2_with fail
  refine hR.mono ?_
  clear hR hy
  rintro e W3 ⟨(⟨rfl, hl16, hj3⟩ | ⟨rfl, hjx⟩), hk3⟩
  · have HK3 := Lib.hid (HKP.out.trans hk3)
    have hb3 := (hk3.block _ HBB.out HZ.out).trans HBX.out
    have c4 : W3.cell? ⟨W.heap.size, 4, none⟩ = some (.slice lo LL.length lc) := by rw [cell_of_blk hb3]; rfl
    have HC4 := Lib.hid c4
    have HZ3 : Hid (W.heap.size < W3.heap.size) := Nat.lt_of_lt_of_le HZ.out hk3.size
    have HJ3 := Lib.hid hj3
    clear hj3 hk3 hb3 HBX HKP HZ
    gi_wp2_with fail
    gi_loopw [17] (fun p wr => ∃ i : Nat, p = .int .i64 (i : Nat) ∧ i ≤ LL.length ∧ J ((LL.drop i).flatMap (VT.nodes (lv + 1)) ++ R) wr ∧ Kept B0 W wr ∧ W.heap.size < wr.heap.size) (fun p _ => match p with | .int _ i => LL.length - i.toNat | _ => 0)
    case atStart => exact ⟨0, rfl, Nat.zero_le _, HJ3.out, HK3.out, HZ3.out⟩
    case round =>
      obtain ⟨i, rfl, hi, hj, hk, hz⟩ := hrel
      have HJ := Lib.hid hj
      have HK := Lib.hid hk
      clear hj hk
      by_cases hlt : i < LL.length
      · obtain ⟨bl, off, ce, rfl, hbl0, hce, hvc⟩ := HL.out.at hlt
        have hbw := H0.out _ _ HJ.out
        have hcw : ∀ j u, ce[j]? = some u → wr.cell? ⟨bl, off + i * 6 + j, none⟩ = some u := fun j u hu => (hbw.cell (p := ⟨bl, off + i * 6 + j, none⟩) hbl0).trans (hce j u hu)
        have hj4 := HJ.out
        rw [List.drop_eq_getElem_cons hlt, List.flatMap_cons, List.append_assoc] at hj4
        have CW := Lib.hid (IH.out _ (List.getElem_mem hlt) (lv + 1) (by omega) ce ((LL.drop (i + 1)).flatMap (VT.nodes (lv + 1)) ++ R))
        have hii : (i : Int) < (LL.length : Int) := by omega
        have q1 : IntKind.i64.wrap ((lv : Int) + 1) = (lv : Int) + 1 := IntWalk.i64_in _ (by omega)
        have q2 : (((lv + 1 : Nat) : Int)) = (lv : Int) + 1 := by omega
        rw [q2] at CW
        obtain ⟨k1, b1, n1, s1, lo1, ln1, lc1, ko1, kn1, kc1, rfl⟩ := vcell_slices hvc
        have HVC := Lib.hid hvc
        have HJ4 := Lib.hid hj4
        have e0 := hcw 0 _ rfl
        have e1 := hcw 1 _ rfl
        have e2 := hcw 2 _ rfl
        have e3 := hcw 3 _ rfl
        have e4 := hcw 4 _ rfl
        have e5 := hcw 5 _ rfl
        rw [Nat.add_zero] at e0
        have hbl : bl < wr.heap.size := Nat.lt_of_lt_of_le hbl0 hbw.size
        clear hce hvc hbw hcw hj4 q2 HJ
        have HA : Hid (∀ o, Below wr.heap.size wr (wr.alloc o)) := fun o => (Below.refl _ wr).alloc (Nat.le_refl _) o
        have HBW : Hid (B0 ≤ wr.heap.size) := Nat.le_trans HBB.out (Nat.le_of_lt hz)
        gi_wp2_with fail
        refine ⟨trivial, ?_⟩
        refine (callsIn_wide.2 (CW.out _ HVC.out (Nat.le_trans HBW.out (HA.out _).size) (HG.out _ _ _ HJ4.out (HA.out _)))).mono ?_
        rintro e w5 ⟨(⟨rfl, hj5⟩ | ⟨rfl, hjx⟩), hk5⟩
        · have HJ5 := Lib.hid hj5
          have HK5 := Lib.hid (HK.out.trans ((Kept.below (HA.out _)).trans hk5))
          have hz5 : W.heap.size < w5.heap.size := Nat.lt_of_lt_of_le hz (Nat.le_trans (HA.out _).size hk5.size)
          clear hj5 hk5 CW HJ4
          gi_wp2_with fail
          go_roundw
          case rel => exact ⟨i + 1, by go_num, by omega, HJ5.out, HK5.out, hz5⟩
          case measure =>
            show LL.length - ((i : Int) + 1).toNat < LL.length - ((i : Nat) : Int).toNat
            have ht : ((i : Int) + 1).toNat = i + 1 := by omega
            rw [ht, Int.toNat_natCast]
            omega
        · have HK5 := Lib.hid (HK.out.trans ((Kept.below (HA.out _)).trans hk5))
          have HJX := Lib.hid hjx
          clear hjx hk5 CW HJ4
          gi_wp2_with fail
          go_ret
          exact ⟨.inr ⟨rfl, HJX.out⟩, HK5.out⟩
      · have hii : ¬ (i : Int) < (LL.length : Int) := by omega
        have hj4 := HJ.out
        rw [List.drop_of_length_le (by omega)] at hj4
        have HJ4 : Hid (J R wr) := hj4
        clear hj4 HJ
        gi_wp2
        go_ret
        exact ⟨.inl ⟨rfl, HJ4.out⟩, HK.out⟩
  · gi_wp2
    go_ret
    exact ⟨.inr ⟨rfl, hjx⟩, HKP.out.trans hk3⟩
end Go.Proofs.YtomecnncighkgaaGreatDoor
/- value.walk of any value, value.nodes and its closure. -/
namespace Go.Proofs.YtomecnncighkgaaGreatDoor
open Go.RowKit Go.Shelf

attribute [local go_sem] Oper.semAt_some

theorem walk_all (W0 : World) (l B0 : Nat) (J : List (Nat × VT) → World → Prop) (Jx : World → Prop)
    (h0 : ∀ R W, J R W → Below W0.heap.size W0 W)
    (hG : ∀ R W W', J R W → Below W.heap.size W W' → J R W')
    (hY : ∀ lv t v R W, lv ≤ 17 → VAt W0 v t → J ((lv, t) :: R) W → YieldAt Fence.wide 0 Tryz.prog l #[.int .i64 (lv : Nat), v] W fun e W' => ((e = .returned (.bool true) ∧ lv ≤ 16 ∧ J R W') ∨ (e = .returned (.bool false) ∧ Jx W')) ∧ Kept B0 W W') :
    ∀ (m : Nat) (t : VT), SizeOf.sizeOf t ≤ m → t.wf → WalkCalls W0 l B0 J Jx t
  | 0, t, hm, _ => by
    cases t
    simp only [VT.mk.sizeOf_spec] at hm
    omega
  | m + 1, .mk k b n s L ks, hm, hwf => by
    have hp := VT.wf_parts hwf
    exact walk_it W0 l B0 J Jx h0 hG hY k b n s L ks hp.2.2.2.1 (fun t ht => walk_all W0 l B0 J Jx h0 hG hY m t (by have := vt_lt (k := k) (b := b) (n := n) (s := s) (ks := ks) ht; omega) (hp.2.2.2.2.2.2 t ht))

set_option maxRecDepth 100000 in
theorem nodes_any (v : Value) (t : VT) (lv : Nat) (w : World) (h : VAt w v t) : Calls Tryz.prog 94 #[v, .int .i64 (lv : Nat)] w fun e w' => e = .returned (.func (.func 123) #[] #[.pointer (some ⟨w.heap.size, 0, none⟩), .pointer (some ⟨w.heap.size + 1, 0, none⟩)]) ∧ ∃ cs : List Value, v = .agg cs.toArray ∧ w' = (w.alloc (.cells cs.toArray 46 (0, 0))).alloc (.cells #[.int .i64 (lv : Nat)] 3 (0, 0)) := by
  obtain ⟨x4, x5, rfl, hs, hL⟩ := h.open
  go_enter Tryz.func94, Tryz.ntmps94
  go_wp2_with fail
  go_ret
  exact ⟨rfl, [.int .i64 t.kind, .bool t.bool, .int .i64 t.int, .string t.str, x4, x5], rfl, rfl⟩

set_option maxRecDepth 100000 in
set_option maxHeartbeats 1600000 in
theorem nodes1_it (W0 : World) (l B0 n p1 p2 : Nat) (J : List (Nat × VT) → World → Prop) (Jx : World → Prop) (R : List (Nat × VT)) (t : VT) (cs : List Value) (lv : Nat) (hlv : lv ≤ 17) (hw : WalkCalls W0 l B0 J Jx t)
    (hc : VCell W0 t cs) (W : World) (hB : B0 ≤ W.heap.size) (hj : J (t.nodes lv ++ R) W)
    (h1 : W.heap[p1]? = some (.cells cs.toArray 46 (0, 0))) (h2 : W.heap[p2]? = some (.cells #[.int .i64 (lv : Nat)] 3 (0, 0))) :
    CallsIn Fence.wide n Tryz.prog 123 #[.func (.yield l) #[] #[], .pointer (some ⟨p1, 0, none⟩), .pointer (some ⟨p2, 0, none⟩)] W fun e W' => (∃ v, e = .returned v) ∧ (J R W' ∨ Jx W') := by
  have CW := Lib.hid (hw lv hlv cs R W hc hB hj)
  obtain ⟨k1, b1, n1, s1, lo1, ln1, lc1, ko1, kn1, kc1, rfl⟩ := vcell_slices hc
  have LV : (loadVar 46 ⟨p1, 0, none⟩).run Tryz.prog W = .ok (.agg #[.int .i64 k1, .bool b1, .int .i64 n1, .string s1, .slice lo1 ln1 lc1, .slice ko1 kn1 kc1]) W := run_loadVar_row W p1 _ _ _ _ _ h1 Tryz.underlying46 rfl (by kernel_rfl)
  have c2 : W.cell? ⟨p2, 0, none⟩ = some (.int .i64 (lv : Nat)) := by rw [cell_of_blk h2]; rfl
  have e0 : W.cell? ⟨p1, 0, none⟩ = some (.int .i64 k1) := by rw [cell_of_blk h1]; rfl
  have e1 : W.cell? ⟨p1, 1, none⟩ = some (.bool b1) := by rw [cell_of_blk h1]; rfl
  have e2 : W.cell? ⟨p1, 2, none⟩ = some (.int .i64 n1) := by rw [cell_of_blk h1]; rfl
  have e3 : W.cell? ⟨p1, 3, none⟩ = some (.string s1) := by rw [cell_of_blk h1]; rfl
  have e4 : W.cell? ⟨p1, 4, none⟩ = some (.slice lo1 ln1 lc1) := by rw [cell_of_blk h1]; rfl
  have e5 : W.cell? ⟨p1, 5, none⟩ = some (.slice ko1 kn1 kc1) := by rw [cell_of_blk h1]; rfl
  clear hw hc hB hj h1 h2
  refine (callsIn_wide (n := n)).2 ?_
  go_enter Tryz.func123, Tryz.ntmps123
  go_wp2_with fail
  refine CW.out.mono ?_
  rintro e w5 ⟨(⟨rfl, hj5⟩ | ⟨rfl, hjx⟩), hk5⟩
  · go_wp2_with fail
    go_end0
    exact ⟨⟨_, rfl⟩, .inl hj5⟩
  · go_wp2_with fail
    go_end0
    exact ⟨⟨_, rfl⟩, .inr hjx⟩
end Go.Proofs.YtomecnncighkgaaGreatDoor
