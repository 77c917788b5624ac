/- The walk over the law ValueNests. -/
import Derived.Test.YtbndgmbjfgmdnaaGreatDoorVl3
import Derived.Test.YtbndgmbjfgmdnaaGreatDoorVl6m
namespace Go.Proofs.YtbndgmbjfgmdnaaGreatDoor
open Go.RowKit Go.Deep

theorem nest_wf (e : Bool) : ∀ n, (nestT n e).wf
  | 0 => by
    cases e with
    | true => exact flat_wf (by unfold isI; decide) (by unfold isI; decide) (by decide)
    | false => exact flat_wf (by unfold isI; decide) (by unfold isI; decide) (by decide)
  | n + 1 => by
    rw [nestT, VT.wf, wfL_iff]
    refine ⟨by unfold isI; decide, by unfold isI; decide, by decide, by simp, by decide, fun x hx => (by cases hx), fun x hx => ?_⟩
    rw [List.mem_singleton.1 hx]
    exact nest_wf e n
/-- the value under way lies in its block, its parts behind it -/
def NsSt (D : Nat) (t : VT) (w : World) : Prop :=
  ∃ (k : Int) (b : Bool) (n : Int) (s : ByteArray) (lo : Option Addr) (ll lc : Nat) (ko : Option Addr) (kl kc : Nat), w.heap[D]? = some (.cells #[.int .i64 k, .bool b, .int .i64 n, .string s, .slice lo ll lc, .slice ko kl kc] 25 (0, 0)) ∧
    VCellB (fun q => D < q) w t [.int .i64 k, .bool b, .int .i64 n, .string s, .slice lo ll lc, .slice ko kl kc]
def NsRel (w : World) (e : Bool) (n : Nat) (f : Nat) (t6 : Value) (wr : World) : Prop :=
  ∃ i : Nat, t6 = .int .i64 (i : Nat) ∧ i ≤ n ∧ f = n - i ∧ NsSt w.heap.size (nestT i e) wr ∧ Below w.heap.size w wr
theorem nest_step {D : Nat} {e : Bool} {i : Nat} {w w1 w2 : World} {cs : List Value} (hc : VCellB (fun q => D < q) w (nestT i e) cs) (hD : D < w.heap.size) (hb : Below w.heap.size w w1) (hz : w1.heap[w.heap.size]? = some (.cells cs.toArray 25 (0, 0)))
    (hw : Wrote D (.cells #[.int .i64 4, .bool false, .int .i64 0, .string ⟨#[]⟩, .slice (some ⟨w.heap.size, 0, none⟩) 1 1, .slice none 0 0] 25 (0, 0)) w1 w2) : NsSt D (nestT (i + 1) e) w2 := by
  refine ⟨_, _, _, _, _, _, _, _, _, _, hw.at_, ?_⟩
  rw [nestT]
  have hl1 : w.heap.size < w1.heap.size := (Array.getElem?_eq_some_iff.1 hz).1
  have h1 : VCellB (fun q => D < q) w1 (nestT i e) cs := VCellB.keep hb.size (fun b _ hl => hb.block b hl) _ _ hc
  have h2 : VCellB (fun q => D < q) w2 (nestT i e) cs := VCellB.keep (Nat.le_of_eq hw.size.symm) (fun b hb2 _ => hw.block b (by omega)) _ _ h1
  have hz2 : w2.heap[w.heap.size]? = some (.cells cs.toArray 25 (0, 0)) := (hw.block _ (by omega)).trans hz
  refine vcellB_mk.2 ⟨_, _, rfl, .inl ⟨none, 0, rfl, rfl⟩, ?_⟩
  exact ElemK.Row.ofBlock (E := EVal) (L := [nestT i e]) [cs] (by rw [List.flatten_cons, List.flatten_nil, List.append_nil]; exact hz2) rfl rfl (fun k h3 h4 => by
    rcases k with _ | k
    · exact h2
    · simp at h4) hD (Nat.le_refl _)

set_option maxRecDepth 100000 in
set_option maxHeartbeats 6400000 in
theorem nests_law (n : Nat) (hn : n ≤ 255) (e : Bool) (w : World) (hp : Pow w) : Calls Tryz.prog 11 #[.int .u8 (n : Nat), .bool e] w (LawPost w) := by
  have AW := fun W (hW : Below w.heap.size w W) => Lib.hid (awake_any W (hp.below hW))
  have VC := fun (v : Value) (W : World) (h : VAt W v (nestT n e)) => Lib.hid (valid_any v (nestT n e) W h (nest_wf e n))
  have HNV := Lib.hid (nest_valid e n)
  generalize validF (nestT n e) = ve at *
  obtain ⟨iV, hiV, hzV, hnV, hyV⟩ := Tryz.vinfoV'
  have HI := Lib.hid hiV
  clear hiV hp
  -- the loop and what follows
  have hcv : IntKind.i64.wrap (n : Int) = (n : Int) := IntWalk.i64_in _ (by omega)
  obtain ⟨w1, hw1⟩ : ∃ w1, w.alloc (.cells #[.int .i64 2, .bool false, .int .i64 7, .string ⟨#[]⟩, .slice none 0 0, .slice none 0 0] 25 (0, 0)) = w1 := ⟨_, rfl⟩
  have hk1 : w1.heap[w.heap.size]? = some (.cells #[.int .i64 2, .bool false, .int .i64 7, .string ⟨#[]⟩, .slice none 0 0, .slice none 0 0] 25 (0, 0)) := by rw [← hw1]; exact hp_new rfl
  have HB1 : Hid (Below w.heap.size w w1) := by unfold Hid; rw [← hw1]; exact (Below.refl _ w).alloc (Nat.le_refl _) _
  have HK1 := Lib.hid hk1
  have HW1 := Lib.hid hw1
  clear hk1 hw1
  go_enter Tryz.func11, Tryz.ntmps11
  go_upto_region 2 with fail
  rw [HW1.out]
  clear HW1
  cases e with
  | true =>
    go_wp2_with (refine wpList_store_row rfl 25 _ _ rfl w.heap.size rfl 25 _ HK1.out (.agg #[.int .i64 4, .bool false, .int .i64 0, .string ⟨#[]⟩, .slice none 0 0, .slice none 0 0]) rfl (by kernel_rfl) rfl rfl ?_)
    intro w2 hw2
    have HREL0 : Hid (NsRel w true n n (.int .i64 ((0 : Nat) : Int)) w2) := ⟨0, rfl, Nat.zero_le _, rfl, ⟨_, _, _, _, _, _, _, _, _, _, hw2.at_, vcellB_flat 4 false 0 ⟨#[]⟩⟩, HB1.out.trans (hw2.below (Nat.le_refl _))⟩
    clear hw2
    go_wp2_with fail
    go_loopg [6] n (NsRel w true n)
    case atStart => exact HREL0.out
    case round =>
      obtain ⟨i, rfl, hi, rfl, ⟨k, b, m, s, lo, ll, lc, ko, kl, kc, hk, hc⟩, hb⟩ := hrel
      have d0 := cell_of_blk hk 0
      have d1 := cell_of_blk hk 1
      have d2 := cell_of_blk hk 2
      have d3 := cell_of_blk hk 3
      have d4 := cell_of_blk hk 4
      have d5 := cell_of_blk hk 5
      have HB := Lib.hid hb
      have HC := Lib.hid hc
      have HK := Lib.hid hk
      have hlt : w.heap.size < wr.heap.size := (Array.getElem?_eq_some_iff.1 hk).1
      clear hb hc hk HREL0
      by_cases hin : i < n
      · have hii : (i : Int) < (n : Int) := by omega
        obtain ⟨w3, hw3⟩ : ∃ w3, wr.alloc (.cells #[.int .i64 k, .bool b, .int .i64 m, .string s, .slice lo ll lc, .slice ko kl kc] 25) = w3 := ⟨_, rfl⟩
        have hk3 : w3.heap[wr.heap.size]? = some (.cells #[.int .i64 k, .bool b, .int .i64 m, .string s, .slice lo ll lc, .slice ko kl kc] 25 (0, 0)) := by rw [← hw3]; exact hp_new rfl
        have hb3 : Below wr.heap.size wr w3 := by rw [← hw3]; exact (Below.refl _ wr).alloc (Nat.le_refl _) _
        have HW3 := Lib.hid hw3
        have HK3 := Lib.hid hk3
        have HB3 := Lib.hid hb3
        have HKD := Lib.hid ((hb3.block _ hlt).trans HK.out)
        clear hw3 hk3 hb3
        as_aux_lemma =>
        go_wp2_with (first | (refine wpList_build1 rfl 22 25 _ rfl #[.int .i64 k, .bool b, .int .i64 m, .string s, .slice lo ll lc, .slice ko kl kc] iV _ Tryz.underlying22 HI.out hzV 6 hnV (by decide) (by decide) rfl rfl ?_; rw [HW3.out]) | (refine wpList_store_row rfl 25 _ _ rfl w.heap.size rfl 25 _ HKD.out (.agg #[.int .i64 4, .bool false, .int .i64 0, .string ⟨#[]⟩, .slice (some ⟨wr.heap.size, 0, none⟩) 1 1, .slice none 0 0]) rfl (by kernel_rfl) rfl rfl ?_))
        intro w4 hw4
        have HST := Lib.hid (nest_step HC.out hlt HB3.out HK3.out hw4)
        have HB4 := Lib.hid ((HB.out.trans (HB3.out.mono HB.out.size)).trans (hw4.below (Nat.le_refl _)))
        clear hw4 d0 d1 d2 d3 d4 d5
        go_wp2_with fail
        go_roundg (n - (i + 1))
        case measure => omega
        case rel => exact ⟨i + 1, by go_num, by omega, rfl, HST.out, HB4.out⟩
      · have hii : ¬ (i : Int) < (n : Int) := by omega
        have he : i = n := by omega
        have VC1 := VC (.agg #[.int .i64 k, .bool b, .int .i64 m, .string s, .slice lo ll lc, .slice ko kl kc]) wr (by rw [← he]; exact ⟨_, rfl, VCellB.cell _ _ HC.out⟩)
        clear he VC HC HK
        by_cases hm : n < 15
        · have hmi : (n : Int) < 15 := by omega
          have hve : ve = 0 := by have := HNV.out; simpa [hm] using this
          rw [hve] at VC1
          clear hve hm HNV
          as_aux_lemma =>
          go_wp2_with fail
          refine VC1.out.mono ?_
          rintro e w5 ⟨rfl, hb⟩
          have HB5 := Lib.hid (HB.out.trans (hb.mono HB.out.size))
          clear hb VC1 d0 d1 d2 d3 d4 d5
          go_wp2_with fail
          refine (AW w5 HB5.out).out.mono ?_
          rintro e w6 ⟨rfl, hb⟩
          have HB6 := Lib.hid (HB5.out.trans (hb.mono HB5.out.size))
          clear hb
          go_wp2_with fail
          go_ret
          exact ⟨rfl, HB6.out⟩
        · have hmi : ¬ (n : Int) < 15 := by omega
          have hve : ve = 13 := by have := HNV.out; simpa [hm] using this
          rw [hve] at VC1
          clear hve hm HNV
          as_aux_lemma =>
          go_wp2_with fail
          refine VC1.out.mono ?_
          rintro e w5 ⟨rfl, hb⟩
          have HB5 := Lib.hid (HB.out.trans (hb.mono HB.out.size))
          clear hb VC1 d0 d1 d2 d3 d4 d5
          go_wp2_with fail
          refine (AW w5 HB5.out).out.mono ?_
          rintro e w6 ⟨rfl, hb⟩
          have HB6 := Lib.hid (HB5.out.trans (hb.mono HB5.out.size))
          clear hb
          go_wp2_with fail
          go_ret
          exact ⟨rfl, HB6.out⟩
  | false =>
    have HREL0 : Hid (NsRel w false n n (.int .i64 ((0 : Nat) : Int)) w1) := ⟨0, rfl, Nat.zero_le _, rfl, ⟨_, _, _, _, _, _, _, _, _, _, HK1.out, vcellB_flat 2 false 7 ⟨#[]⟩⟩, HB1.out⟩
    go_wp2_with fail
    go_loopg [6] n (NsRel w false n)
    case atStart => exact HREL0.out
    case round =>
      obtain ⟨i, rfl, hi, rfl, ⟨k, b, m, s, lo, ll, lc, ko, kl, kc, hk, hc⟩, hb⟩ := hrel
      have d0 := cell_of_blk hk 0
      have d1 := cell_of_blk hk 1
      have d2 := cell_of_blk hk 2
      have d3 := cell_of_blk hk 3
      have d4 := cell_of_blk hk 4
      have d5 := cell_of_blk hk 5
      have HB := Lib.hid hb
      have HC := Lib.hid hc
      have HK := Lib.hid hk
      have hlt : w.heap.size < wr.heap.size := (Array.getElem?_eq_some_iff.1 hk).1
      clear hb hc hk HREL0
      by_cases hin : i < n
      · have hii : (i : Int) < (n : Int) := by omega
        obtain ⟨w3, hw3⟩ : ∃ w3, wr.alloc (.cells #[.int .i64 k, .bool b, .int .i64 m, .string s, .slice lo ll lc, .slice ko kl kc] 25) = w3 := ⟨_, rfl⟩
        have hk3 : w3.heap[wr.heap.size]? = some (.cells #[.int .i64 k, .bool b, .int .i64 m, .string s, .slice lo ll lc, .slice ko kl kc] 25 (0, 0)) := by rw [← hw3]; exact hp_new rfl
        have hb3 : Below wr.heap.size wr w3 := by rw [← hw3]; exact (Below.refl _ wr).alloc (Nat.le_refl _) _
        have HW3 := Lib.hid hw3
        have HK3 := Lib.hid hk3
        have HB3 := Lib.hid hb3
        have HKD := Lib.hid ((hb3.block _ hlt).trans HK.out)
        clear hw3 hk3 hb3
        as_aux_lemma =>
        go_wp2_with (first | (refine wpList_build1 rfl 22 25 _ rfl #[.int .i64 k, .bool b, .int .i64 m, .string s, .slice lo ll lc, .slice ko kl kc] iV _ Tryz.underlying22 HI.out hzV 6 hnV (by decide) (by decide) rfl rfl ?_; rw [HW3.out]) | (refine wpList_store_row rfl 25 _ _ rfl w.heap.size rfl 25 _ HKD.out (.agg #[.int .i64 4, .bool false, .int .i64 0, .string ⟨#[]⟩, .slice (some ⟨wr.heap.size, 0, none⟩) 1 1, .slice none 0 0]) rfl (by kernel_rfl) rfl rfl ?_))
        intro w4 hw4
        have HST := Lib.hid (nest_step HC.out hlt HB3.out HK3.out hw4)
        have HB4 := Lib.hid ((HB.out.trans (HB3.out.mono HB.out.size)).trans (hw4.below (Nat.le_refl _)))
        clear hw4 d0 d1 d2 d3 d4 d5
        go_wp2_with fail
        go_roundg (n - (i + 1))
        case measure => omega
        case rel => exact ⟨i + 1, by go_num, by omega, rfl, HST.out, HB4.out⟩
      · have hii : ¬ (i : Int) < (n : Int) := by omega
        have he : i = n := by omega
        have VC1 := VC (.agg #[.int .i64 k, .bool b, .int .i64 m, .string s, .slice lo ll lc, .slice ko kl kc]) wr (by rw [← he]; exact ⟨_, rfl, VCellB.cell _ _ HC.out⟩)
        clear he VC HC HK
        by_cases hm : n < 16
        · have hmi : (n : Int) < 16 := by omega
          have hve : ve = 0 := by have := HNV.out; simpa [hm] using this
          rw [hve] at VC1
          clear hve hm HNV
          as_aux_lemma =>
          go_wp2_with fail
          refine VC1.out.mono ?_
          rintro e w5 ⟨rfl, hb⟩
          have HB5 := Lib.hid (HB.out.trans (hb.mono HB.out.size))
          clear hb VC1 d0 d1 d2 d3 d4 d5
          go_wp2_with fail
          refine (AW w5 HB5.out).out.mono ?_
          rintro e w6 ⟨rfl, hb⟩
          have HB6 := Lib.hid (HB5.out.trans (hb.mono HB5.out.size))
          clear hb
          go_wp2_with fail
          go_ret
          exact ⟨rfl, HB6.out⟩
        · have hmi : ¬ (n : Int) < 16 := by omega
          have hve : ve = 13 := by have := HNV.out; simpa [hm] using this
          rw [hve] at VC1
          clear hve hm HNV
          as_aux_lemma =>
          go_wp2_with fail
          refine VC1.out.mono ?_
          rintro e w5 ⟨rfl, hb⟩
          have HB5 := Lib.hid (HB.out.trans (hb.mono HB.out.size))
          clear hb VC1 d0 d1 d2 d3 d4 d5
          go_wp2_with fail
          refine (AW w5 HB5.out).out.mono ?_
          rintro e w6 ⟨rfl, hb⟩
          have HB6 := Lib.hid (HB5.out.trans (hb.mono HB5.out.size))
          clear hb
          go_wp2_with fail
          go_ret
          exact ⟨rfl, HB6.out⟩
end Go.Proofs.YtbndgmbjfgmdnaaGreatDoor
