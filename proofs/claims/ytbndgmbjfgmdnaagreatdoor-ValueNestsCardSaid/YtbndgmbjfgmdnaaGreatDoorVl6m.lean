/- A valid value is of sizes that any memory has; maps are valid; no program in sight. -/
import Derived.Test.YtbndgmbjfgmdnaaGreatDoorVa2
import Derived.Test.YtbndgmbjfgmdnaaGreatDoorVl3
import Derived.Test.YtbndgmbjfgmdnaaGreatDoorVr11
import Derived.Test.YtbndgmbjfgmdnaaGreatDoorVp5
namespace Go.Proofs.YtbndgmbjfgmdnaaGreatDoor

theorem keys_ok {lv : Nat} {t : VT} (h : nodeF lv t = 0) : ∀ x ∈ t.keys, x.size ≤ 9223372036854775807 := by
  obtain ⟨_, _, _, hp, _, _, _, _, _, hy⟩ := node_zero h
  intro x hx
  by_cases hk : t.kind = 5
  · have hkd := hy hk
    unfold keyedF at hkd
    rw [Bool.and_eq_true] at hkd
    have h2 := hkd.2
    unfold keysTo at h2
    rw [List.all_eq_true] at h2
    obtain ⟨i, hi, rfl⟩ := List.getElem_of_mem hx
    have h3 := h2 i (List.mem_range.2 hi)
    rw [Bool.and_eq_true] at h3
    have h4 := h3.1
    rw [List.getD, List.getElem?_eq_getElem hi] at h4
    unfold keyOk at h4
    rw [Bool.and_eq_true] at h4
    have h5 : t.keys[i].size ≤ 64 := of_decide_eq_true h4.2
    omega
  · have := (plain_parts hp).2.2.2.2 hk
    rw [this] at hx
    cases hx
theorem wf_check : ∀ (n lv : Nat) (t : VT), t.depth ≤ n → checkF lv t = 0 → t.wf
  | 0, _, t, h, _ => by have := depth_pos t; omega
  | n + 1, lv, t, hd, h => by
    obtain ⟨hn, hc⟩ := check_zero h
    have hko := keys_ok hn
    obtain ⟨_, k0, k5, _, i0, i1, hs, h1, h2, _⟩ := node_zero hn
    have hd2 := depth_list t
    cases t with
    | mk k b i s L ks =>
      have k0 : 0 ≤ k := k0
      have k5 : k ≤ 5 := k5
      have i0 : -9007199254740992 ≤ i := i0
      have i1 : i ≤ 9007199254740992 := i1
      have hs : s.size ≤ 4096 := hs
      have h1 : L.length ≤ 1024 := h1
      have h2 : ks.length ≤ 1024 := h2
      have hd2 : depthL L < _ := hd2
      rw [VT.wf, wfL_iff]
      refine ⟨⟨by omega, by omega⟩, ⟨by omega, by omega⟩, by omega, by omega, by omega, hko, fun x hx => wf_check n (lv + 1) x ?_ (hc x hx)⟩
      have := depthL_mem hx
      omega
theorem wf_valid {t : VT} (h : validF t = 0) : t.wf := wf_check _ 1 t (Nat.le_refl _) h
theorem zero_valid : validF VT.zero = 0 := by decide +kernel
theorem mapF_valid (L : List VR) : validF (mapF L) = 0 := by
  by_cases h : mapE L = 0
  · exact map_valid h
  · unfold mapF
    rw [if_neg h]
    exact zero_valid
theorem mapF_wf (L : List VR) : (mapF L).wf := wf_valid (mapF_valid L)
end Go.Proofs.YtbndgmbjfgmdnaaGreatDoor
/- The walk over the law ValueMaps. -/
namespace Go.Proofs.YtbndgmbjfgmdnaaGreatDoor
open Go.RowKit Go.Deep

theorem map_open {L : List VR} {W w' : World} {e : Ending} (h : MapPost L W e w') : ∃ a1 c1 a2 c2, e = .returned (.tuple #[.agg #[.int .i64 (mapF L).kind, .bool (mapF L).bool, .int .i64 (mapF L).int, .string (mapF L).str, .slice a1 (mapF L).list.length c1, .slice a2 (mapF L).keys.length c2], .int .i64 ((mapE L : Nat) : Int)]) ∧ VAt w' (.agg #[.int .i64 (mapF L).kind, .bool (mapF L).bool, .int .i64 (mapF L).int, .string (mapF L).str, .slice a1 (mapF L).list.length c1, .slice a2 (mapF L).keys.length c2]) (mapF L) ∧ Below W.heap.size W w' := by
  obtain ⟨v, rfl, hv, hb⟩ := h
  obtain ⟨a1, c1, a2, c2, rfl⟩ := hv.form
  exact ⟨a1, c1, a2, c2, rfl, hv, hb⟩
set_option maxRecDepth 100000 in
set_option maxHeartbeats 6400000 in
theorem maps_law (L : List VR) (v : Value) (B : Nat → Prop) (w : World) (hp : Pow w) (hl : L.length ≤ 9223372036854775807) (hsz : ∀ x ∈ L, x.1.size ≤ 9223372036854775807) (hwf : ∀ x ∈ L, x.2.wf) (h : EVar.Row B w L v) : Calls Tryz.prog 7 #[v] w (LawPost w) := by
  obtain ⟨ao, cap, rfl⟩ := h.form
  have MP : ∀ W, Below w.heap.size w W → Hid (Calls Tryz.prog 21 #[.slice ao L.length cap] W fun e w' => ∃ a1 c1 a2 c2, e = .returned (.tuple #[.agg #[.int .i64 (mapF L).kind, .bool (mapF L).bool, .int .i64 (mapF L).int, .string (mapF L).str, .slice a1 (mapF L).list.length c1, .slice a2 (mapF L).keys.length c2], .int .i64 ((mapE L : Nat) : Int)]) ∧ VAt w' (.agg #[.int .i64 (mapF L).kind, .bool (mapF L).bool, .int .i64 (mapF L).int, .string (mapF L).str, .slice a1 (mapF L).list.length c1, .slice a2 (mapF L).keys.length c2]) (mapF L) ∧ Below W.heap.size W w') := fun W hW => (vmap_any L _ B hl hwf hsz W (h.below hW)).mono (fun e w' hx => map_open hx)
  have RM : ∀ W, Below w.heap.size w W → Hid (Calls Tryz.prog 22 #[.slice ao L.length cap] W fun e w' => ∃ a1 c1 a2 c2, e = .returned (.tuple #[.agg #[.int .i64 (mapF L).kind, .bool (mapF L).bool, .int .i64 (mapF L).int, .string (mapF L).str, .slice a1 (mapF L).list.length c1, .slice a2 (mapF L).keys.length c2], .int .i64 ((mapE L : Nat) : Int)]) ∧ VAt w' (.agg #[.int .i64 (mapF L).kind, .bool (mapF L).bool, .int .i64 (mapF L).int, .string (mapF L).str, .slice a1 (mapF L).list.length c1, .slice a2 (mapF L).keys.length c2]) (mapF L) ∧ Below W.heap.size W w') := fun W hW => (rmap_any L _ B hl hwf hsz W (h.below hW)).mono (fun e w' hx => map_open hx)
  have SM := fun (v u : Value) (W : World) (h1 : VAt W v (mapF L)) (h2 : VAt W u (mapF L)) => Lib.hid (same_any (mapF L) (mapF L) (mapF_wf L) (mapF_wf L) v u W h1 h2)
  rw [(sameV_iff (mapF L) (mapF L)).2 rfl] at SM
  have AW := fun W (hW : Below w.heap.size w W) => Lib.hid (awake_any W (hp.below hW))
  generalize mapF L = t at *
  generalize mapE L = me at *
  generalize t.kind = k at *
  generalize t.bool = b at *
  generalize t.int = n at *
  generalize t.str = s at *
  generalize t.list.length = ll at *
  generalize t.keys.length = kl at *
  have te : ((me : Int) == (me : Int)) = true := beq_self_eq_true _
  clear h hwf hsz hp
  have MP0 := MP w (Below.refl _ _)
  go_enter Tryz.func7, Tryz.ntmps7
  go_wp2_with fail
  refine MP0.out.mono ?_
  rintro e w1 ⟨a1, c1, a2, c2, rfl, hv1, hb⟩
  have HB1 := Lib.hid hb
  obtain ⟨w2, hw2⟩ : ∃ w2, w1.alloc (.cells #[.int .i64 k, .bool b, .int .i64 n, .string s, .slice a1 ll c1, .slice a2 kl c2] 25 (0, 0)) = w2 := ⟨_, rfl⟩
  have hk2 : w2.heap[w1.heap.size]? = some (.cells #[.int .i64 k, .bool b, .int .i64 n, .string s, .slice a1 ll c1, .slice a2 kl c2] 25 (0, 0)) := by rw [← hw2]; exact hp_new rfl
  have hb2 : Below w1.heap.size w1 w2 := by rw [← hw2]; exact (Below.refl _ w1).alloc (Nat.le_refl _) _
  have HLT2 : Hid (w1.heap.size < w2.heap.size) := (Array.getElem?_eq_some_iff.1 hk2).1
  have HK2 := Lib.hid hk2
  have HW2 := Lib.hid hw2
  clear hw2 hk2
  have HB2 := Lib.hid (HB1.out.trans (hb2.mono HB1.out.size))
  have HV2 := Lib.hid (hv1.below hb2)
  clear hb hb2 hv1 MP0
  have RM2 := RM w2 HB2.out
  go_upto_region 2 with fail
  rw [HW2.out]
  clear HW2
  as_aux_lemma =>
  go_wp2_with fail
  refine RM2.out.mono ?_
  rintro e w3 ⟨a3, c3, a4, c4, rfl, hv3, hb⟩
  have HB3 := Lib.hid (HB2.out.trans (hb.mono HB2.out.size))
  obtain ⟨w4, hw4⟩ : ∃ w4, w3.alloc (.cells #[.int .i64 k, .bool b, .int .i64 n, .string s, .slice a3 ll c3, .slice a4 kl c4] 25 (0, 0)) = w4 := ⟨_, rfl⟩
  have hk4 : w4.heap[w3.heap.size]? = some (.cells #[.int .i64 k, .bool b, .int .i64 n, .string s, .slice a3 ll c3, .slice a4 kl c4] 25 (0, 0)) := by rw [← hw4]; exact hp_new rfl
  have hb4 : Below w3.heap.size w3 w4 := by rw [← hw4]; exact (Below.refl _ w3).alloc (Nat.le_refl _) _
  have HLT4 : Hid (w3.heap.size < w4.heap.size) := (Array.getElem?_eq_some_iff.1 hk4).1
  have HK4 := Lib.hid hk4
  have HW4 := Lib.hid hw4
  clear hw4 hk4
  have HB24 := Lib.hid (hb.trans (hb4.mono hb.size))
  have HB4 := Lib.hid (HB3.out.trans (hb4.mono HB3.out.size))
  have HV4 := Lib.hid (hv3.below hb4)
  have hk2 := (HB24.out.block _ HLT2.out).trans HK2.out
  have x0 := cell_of_blk hk2 0
  have x1 := cell_of_blk hk2 1
  have x2 := cell_of_blk hk2 2
  have x3 := cell_of_blk hk2 3
  have x4 := cell_of_blk hk2 4
  have x5 := cell_of_blk hk2 5
  have y0 := cell_of_blk HK4.out 0
  have y1 := cell_of_blk HK4.out 1
  have y2 := cell_of_blk HK4.out 2
  have y3 := cell_of_blk HK4.out 3
  have y4 := cell_of_blk HK4.out 4
  have y5 := cell_of_blk HK4.out 5
  have SM4 := SM _ _ w4 (HV2.out.below HB24.out) HV4.out
  clear hb hb4 hv3 hk2 RM2 RM MP SM
  go_upto_region 3 with fail
  rw [HW4.out]
  clear HW4
  as_aux_lemma =>
  go_wp2_with fail
  refine SM4.out.mono ?_
  rintro e w5 ⟨rfl, hb⟩
  have HB5 := Lib.hid (HB4.out.trans (hb.mono HB4.out.size))
  clear hb x0 x1 x2 x3 x4 x5 y0 y1 y2 y3 y4 y5 SM4
  go_wp2_with fail
  refine (AW w5 HB5.out).out.mono ?_
  rintro e w6 ⟨rfl, hb⟩
  have HB6 := Lib.hid (HB5.out.trans (hb.mono HB5.out.size))
  clear hb
  go_wp2_with fail
  go_ret
  exact ⟨rfl, HB6.out⟩
end Go.Proofs.YtbndgmbjfgmdnaaGreatDoor
