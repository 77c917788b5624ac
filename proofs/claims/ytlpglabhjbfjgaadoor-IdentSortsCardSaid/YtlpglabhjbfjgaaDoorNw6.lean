/- The walks over Ascending and Within. -/
import Derived.Test.YtlpglabhjbfjgaaDoorNw5
namespace Go.Proofs.YtlpglabhjbfjgaaDoor
open Go.RowKit

def allR (f : Nat → Bool) (k : Nat) : Bool := (List.range k).all f
theorem allR_succ (f : Nat → Bool) (k : Nat) : allR f (k + 1) = (allR f k && f k) := by
  unfold allR; rw [List.range_succ]; simp
theorem allR_no {f : Nat → Bool} {k n : Nat} (h : f k = false) (hk : k < n) : allR f n = false := by
  unfold allR
  rw [Bool.eq_false_iff]
  intro h2
  have := List.all_eq_true.1 h2 k (List.mem_range.2 hk)
  rw [h] at this
  cases this
def EvGRel (w1 : World) (ss : List ByteArray) (f : Nat → Bool) (g : Nat) (t9 : Value) (wr : World) : Prop :=
  ∃ k : Nat, t9 = .int .i64 (k : Nat) ∧ k ≤ ss.length ∧ g = ss.length - k ∧ allR f k = true ∧ Below w1.heap.size w1 wr

set_option maxRecDepth 100000 in
set_option maxHeartbeats 800000 in
theorem every_gen (g : Nat) (caps : Array Value) (p : Nat → Bool) (v : Value) (ss : List ByteArray) (hl : ss.length ≤ 1000000) (w : World) (h : StrsAt w v ss)
    (hg : ∀ (k : Nat), k < ss.length → ∀ (W : World), Below w.heap.size w W → Calls Tryd.prog g (#[.int .i64 (k : Nat), .string (ss.getD k ByteArray.empty)] ++ caps) W fun e w' => e = .returned (.bool (p k)) ∧ Below W.heap.size W w')
    (eg : ∀ args w, (callFunc g args).run Tryd.prog w = .ok (.enter g args) w) :
    Calls Tryd.prog 50 #[v, .func (.func g) #[] caps] w fun e w' => e = .returned (.bool (allR p ss.length)) ∧ Below w.heap.size w w' := by
  obtain ⟨ao, cap, rfl⟩ := h.form
  have H := Lib.hid h
  have HG := Lib.hid hg
  clear h hg
  go_enter Tryd.func50, Tryd.ntmps50
  go_wp2_with fail
  go_loopg [9] ss.length (EvGRel w ss p)
  case atStart => exact ⟨0, rfl, Nat.zero_le _, rfl, rfl, Below.refl _ _⟩
  case round =>
    obtain ⟨k, rfl, hk, rfl, hall, hbel⟩ := hrel
    have HALL := Lib.hid hall
    have HBEL := Lib.hid hbel
    clear hall hbel
    by_cases hlt : k < ss.length
    · obtain ⟨b, off, rfl, hbl, hc⟩ := (H.out.below HBEL.out).at_ hlt
      have hii : (k : Int) < (ss.length : Int) := by omega
      have HAS := Lib.hid (allR_succ p k)
      have HAN := Lib.hid (fun h => allR_no (f := p) (k := k) (n := ss.length) h hlt)
      have HGK := Lib.hid (HG.out k hlt _ HBEL.out)
      generalize ss.getD k ByteArray.empty = s at *
      go_wp2_with fail
      refine HGK.out.mono ?_
      rintro e w1 ⟨rfl, hb⟩
      have HB := Lib.hid (HBEL.out.trans (hb.mono HBEL.out.size))
      clear hb
      cases hok : p k with
      | true =>
        have HA : Hid (allR p (k + 1) = true) := by unfold Hid; rw [HAS.out, HALL.out, hok]; rfl
        clear hok
        go_wp2_with fail
        go_roundg (ss.length - (k + 1))
        case measure => omega
        case rel => exact ⟨k + 1, by go_num, by omega, rfl, HA.out, HB.out⟩
      | false =>
        have HA : Hid (allR p ss.length = false) := HAN.out hok
        clear hok
        go_wp2_with fail
        go_ret
        exact ⟨by rw [HA.out]; rfl, HB.out⟩
    · have he : k = ss.length := by omega
      subst he
      go_wp2_with fail
      go_ret
      exact ⟨by rw [HALL.out]; rfl, HBEL.out⟩

def ascP (ss : List ByteArray) (i : Nat) : Bool := decide (i = 0) || decide (natC (ss.getD (i - 1) ByteArray.empty).data.toList (ss.getD i ByteArray.empty).data.toList < 0)
theorem getD_datas (ss : List ByteArray) {i : Nat} (h : i < ss.length) : (datas ss).getD i [] = (ss.getD i ByteArray.empty).data.toList := by
  rw [List.getD, List.getD, List.getElem?_map, List.getElem?_eq_getElem h]; rfl
theorem ascP_F (ss : List ByteArray) : allR (ascP ss) ss.length = ascF (datas ss) := by
  unfold allR ascF ascTo
  rw [List.length_map, Bool.eq_iff_iff, List.all_eq_true, List.all_eq_true]
  refine forall_congr' fun i => imp_congr_right fun hi => ?_
  rw [List.mem_range] at hi
  unfold ascP
  rw [getD_datas ss hi, getD_datas ss (show i - 1 < ss.length by omega)]

set_option maxRecDepth 100000 in
set_option maxHeartbeats 800000 in
theorem asc1_any (ss : List ByteArray) (ao : Option Addr) (cap B : Nat) (hsz : ∀ s ∈ ss, s.size ≤ 9223372036854775807) (hl : ss.length ≤ 1000000) (k : Nat) (hk : k < ss.length) (w : World) (h : StrsAt w (.slice ao ss.length cap) ss) (hc : w.cell? ⟨B, 0, none⟩ = some (.slice ao ss.length cap)) :
    Calls Tryd.prog 51 #[.int .i64 (k : Nat), .string (ss.getD k ByteArray.empty), .pointer (some ⟨B, 0, none⟩)] w fun e w' => e = .returned (.bool (ascP ss k)) ∧ Below w.heap.size w w' := by
  have HP : Hid (ascP ss k = (decide (k = 0) || decide (natC (ss.getD (k - 1) ByteArray.empty).data.toList (ss.getD k ByteArray.empty).data.toList < 0))) := rfl
  have hgs : ∀ j, j < ss.length → (ss.getD j ByteArray.empty).size ≤ 9223372036854775807 := fun j hj => by
    rw [List.getD, List.getElem?_eq_getElem hj]; exact hsz _ (List.getElem_mem hj)
  have CM := Lib.hid (fun h0 W => compare_any (ss.getD (k - 1) ByteArray.empty) (ss.getD k ByteArray.empty) h0 (hgs k hk) W)
  have HG1 := Lib.hid (fun h => hgs (k - 1) h)
  clear hgs
  by_cases h0 : k = 0
  · subst h0
    generalize ss.getD 0 ByteArray.empty = s at *
    clear CM HG1 h
    go_enter Tryd.func51, Tryd.ntmps51
    go_wp2_with fail
    go_ret
    exact ⟨by rw [HP.out]; rfl, Below.refl _ _⟩
  · have h1 : ((k : Int) == 0) = false := by rw [beq_eq_false_iff_ne]; omega
    have hp1 : ((k : Int) - 1) = ((k - 1 : Nat) : Int) := by omega
    have hw1 : wrap64 ((k : Int) - 1) = ((k - 1 : Nat) : Int) := by rw [hp1]; exact wrap_in (by omega) (by omega)
    obtain ⟨b, off, rfl, hbl, hcc⟩ := h.at_ (k := k - 1) (by omega)
    have hjn : k - 1 < ss.length := by omega
    have hj1 : (1 : Int) ≤ (k : Int) := by omega
    have CM2 := Lib.hid (CM.out (HG1.out hjn))
    have HP2 : Hid (ascP ss k = decide (natC (ss.getD (k - 1) ByteArray.empty).data.toList (ss.getD k ByteArray.empty).data.toList < 0)) := by unfold Hid; rw [HP.out, decide_eq_false h0]; rfl
    clear CM HG1 HP h0 h hp1 hw1
    generalize ss.getD (k - 1) ByteArray.empty = r at *
    generalize ss.getD k ByteArray.empty = s at *
    have hjl : (k : Int) - 1 < (ss.length : Int) := by omega
    clear hjn
    go_enter Tryd.func51, Tryd.ntmps51
    go_wp2_with fail
    refine (CM2.out _).mono ?_
    rintro e w1 ⟨rfl, hb⟩
    have HB := Lib.hid hb.b
    clear hb
    generalize natC r.data.toList s.data.toList = q at *
    go_wp2_with fail
    go_ret
    exact ⟨by rw [HP2.out]; rfl, HB.out⟩

theorem ascEnters : ∀ args w, (callFunc 51 args).run Tryd.prog w = .ok (.enter 51 args) w := enters_of Tryd.func51 (by kernel_rfl) rfl

set_option maxRecDepth 100000 in
set_option maxHeartbeats 800000 in
theorem ascending_any (v : Value) (ss : List ByteArray) (hl : ss.length ≤ 1000000) (hsz : ∀ s ∈ ss, s.size ≤ 9223372036854775807) (w : World) (h : StrsAt w v ss) : Calls Tryd.prog 27 #[v] w fun e w' => e = .returned (.bool (ascF (datas ss))) ∧ Below w.heap.size w w' := by
  obtain ⟨ao, cap, rfl⟩ := h.form
  have HB0 := Lib.hid ((Below.refl w.heap.size w).alloc (Nat.le_refl _) (.cells #[.slice ao ss.length cap] 27))
  have HK0 : Hid ((w.alloc (.cells #[.slice ao ss.length cap] 27)).heap[w.heap.size]? = some (.cells #[.slice ao ss.length cap] 27)) := hp_new rfl
  have hk0 : (w.alloc (.cells #[.slice ao ss.length cap] 27)).cell? ⟨w.heap.size, 0, none⟩ = some (.slice ao ss.length cap) := by rw [cell_of_blk HK0.out]; rfl
  have hk1 : w.heap.size < (w.alloc (.cells #[.slice ao ss.length cap] 27)).heap.size := (Array.getElem?_eq_some_iff.1 HK0.out).1
  have h2 := h.below HB0.out
  have EV := Lib.hid (every_gen 51 #[.pointer (some ⟨w.heap.size, 0, none⟩)] (ascP ss) _ ss hl _ h2 (fun k hk W hW => asc1_any ss ao cap w.heap.size hsz hl k hk W (h2.below hW) ((hW.cell (p := ⟨w.heap.size, 0, none⟩) hk1).trans hk0)) ascEnters)
  rw [ascP_F] at EV
  clear h h2 hk1 HK0
  go_enter Tryd.func27, Tryd.ntmps27
  go_wp2_with fail
  refine EV.out.mono ?_
  rintro e w1 ⟨rfl, hb⟩
  have HB1 := Lib.hid (HB0.out.trans (hb.mono HB0.out.size))
  clear hb
  go_wp2_with fail
  go_ret
  exact ⟨rfl, HB1.out⟩

theorem datas_inj : ∀ a b : List ByteArray, datas a = datas b → a = b
  | [], [], _ => rfl
  | [], _ :: _, h => by simp at h
  | _ :: _, [], h => by simp at h
  | x :: a, y :: b, h => by
    simp only [datas, List.map_cons, List.cons.injEq] at h
    rw [datas_inj a b h.2, ← Lib.mk_data x, h.1, Lib.mk_data]

set_option maxRecDepth 100000 in
set_option maxHeartbeats 1600000 in
theorem within_any (s d : ByteArray) (m : Int) (w : World) (hm : w.cell? ⟨0, 0, none⟩ = some (.int .i64 m)) (hg : 0 < w.heap.size) : Calls Tryd.prog 21 #[.string s, .string d] w fun e w' =>
    e = .returned (.bool (withF s.data.toList d.data.toList)) ∧ Below w.heap.size w w' := by
  have HW : Hid (withF s.data.toList d.data.toList = (decide (partsF s.data.toList = 0) && decide (partsF d.data.toList = 0) && decide ((pcs 47 d.data.toList).length ≤ (pcs 47 s.data.toList).length) && decide ((pcs 47 s.data.toList).take (pcs 47 d.data.toList).length = pcs 47 d.data.toList))) := rfl
  have PA := Lib.hid (parts_any s m w hm)
  have PB : Hid (∀ W, Below w.heap.size w W → Calls Tryd.prog 16 #[.string d] W (PartsPost d.data.toList W)) := fun W hW => parts_any d m W ((hW.cell (p := ⟨0, 0, none⟩) hg).trans hm)
  have hl1 : partsF s.data.toList = 0 → (pcs 47 s.data.toList).length ≤ 513 := fun h => by have := (partsF_zero h).1; have := pcs_len 47 s.data.toList; omega
  have hl2 : partsF d.data.toList = 0 → (pcs 47 d.data.toList).length ≤ 513 := fun h => by have := (partsF_zero h).1; have := pcs_len 47 d.data.toList; omega
  have HL1 := Lib.hid hl1
  have HL2 := Lib.hid hl2
  have HNN := Lib.hid (pcs_nonnil d.data.toList)
  clear hm hl1 hl2
  go_enter Tryd.func21, Tryd.ntmps21
  go_wp2_with fail
  refine PA.out.mono ?_
  rintro e w1 ⟨v1, ss1, rfl, hb, h0, h1⟩
  have HB1 := Lib.hid hb
  clear hb
  have H0 := Lib.hid h0
  have H1 := Lib.hid h1
  clear h0 h1
  go_wp2_with fail
  refine (PB.out w1 HB1.out).mono ?_
  rintro e w2 ⟨v2, ss2, rfl, hb, k0, k1⟩
  have HB2 := Lib.hid (HB1.out.trans (hb.mono HB1.out.size))
  have HB12 := Lib.hid hb
  have K0 := Lib.hid k0
  clear hb k0 k1
  by_cases hp : partsF s.data.toList = 0
  · obtain ⟨hat1, hs1⟩ := H0.out hp
    rw [hp]
    by_cases hq : partsF d.data.toList = 0
    · obtain ⟨hat2, hs2⟩ := K0.out hq
      rw [hq]
      have hat1 := hat1.below HB12.out
      have hn1 : ss1.length = (pcs 47 s.data.toList).length := by rw [← hs1, List.length_map]
      have hn2 : ss2.length = (pcs 47 d.data.toList).length := by rw [← hs2, List.length_map]
      have hb1 := HL1.out hp
      have hb2 := HL2.out hq
      have hpos : 0 < ss2.length := by rw [hn2]; exact List.length_pos_iff.2 HNN.out
      obtain ⟨a1, c1, rfl⟩ := hat1.form
      obtain ⟨a2, c2, rfl⟩ := hat2.form
      by_cases hle : ss2.length ≤ ss1.length
      · have hr : withF s.data.toList d.data.toList = decide (ss1.take ss2.length = ss2.take ss2.length) := by
          rw [HW.out, decide_eq_true hp, decide_eq_true hq, ← hn1, ← hn2, decide_eq_true hle, ← hs1, ← hs2]
          simp only [Bool.true_and]
          rw [decide_eq_decide, ← List.map_take, List.take_length]
          exact ⟨fun h => datas_inj _ _ h, fun h => by rw [h]⟩
        have HR := Lib.hid hr
        have hlei : (ss2.length : Int) ≤ (ss1.length : Int) := by omega
        obtain ⟨b1, o1, rfl, hb1, hc1, hcells1⟩ : ∃ b o, a1 = some ⟨b, o, none⟩ ∧ b < w2.heap.size ∧ ss1.length ≤ c1 ∧ ∀ j, j < ss1.length → w2.cell? ⟨b, o + j, none⟩ = some (.string (ss1.getD j ByteArray.empty)) := by
          rcases hat1 with ⟨_, _, _, e⟩ | ⟨b, o, _, e, h2, hc, h3⟩
          · rw [e] at hle; simp at hle; rw [hle] at hpos; simp at hpos
          · injection e with e1 e2 e3; subst e3; exact ⟨b, o, e1, h2, hc, h3⟩
        obtain ⟨b2, o2, rfl, hb2, hc2, hcells2⟩ : ∃ b o, a2 = some ⟨b, o, none⟩ ∧ b < w2.heap.size ∧ ss2.length ≤ c2 ∧ ∀ j, j < ss2.length → w2.cell? ⟨b, o + j, none⟩ = some (.string (ss2.getD j ByteArray.empty)) := by
          rcases hat2 with ⟨_, _, _, e⟩ | ⟨b, o, _, e, h2, hc, h3⟩
          · subst e; simp at hpos
          · injection e with e1 e2 e3; subst e3; exact ⟨b, o, e1, h2, hc, h3⟩
        have EQ := Lib.hid (Tryd.slices_Equal_string b1 o1 ss2.length c1 b2 o2 ss2.length c2 ss1 ss2 w2 hle (Nat.le_refl _) (by omega) (by omega) hcells1 hcells2)
        have hci : (ss2.length : Int) ≤ (c1 : Int) := by omega
        clear hcells1 hcells2 hat1 hat2 hs1 hs2 hr hn1 hn2 hp hq
        generalize decide (ss1.take ss2.length = ss2.take ss2.length) = q at *
        go_wp2_with fail
        refine EQ.out.mono ?_
        rintro e w3 ⟨rfl, n, rfl⟩
        go_wp2_with fail
        go_ret
        exact ⟨by rw [HR.out]; rfl, HB2.out.trans ⟨rfl, rfl, rfl, Nat.le_refl _, fun _ _ => rfl⟩⟩
      · have HR : Hid (withF s.data.toList d.data.toList = false) := by
          unfold Hid
          rw [HW.out, ← hn1, ← hn2, decide_eq_false hle]; simp
        have hlei : ¬ (ss2.length : Int) ≤ (ss1.length : Int) := by omega
        clear hat1 hat2 hs1 hs2 hn1 hn2 hp hq
        go_wp2_with fail
        go_ret
        exact ⟨by rw [HR.out]; rfl, HB2.out⟩
    · have HR : Hid (withF s.data.toList d.data.toList = false) := by unfold Hid; rw [HW.out, decide_eq_false hq]; simp
      have hqb : ((partsF d.data.toList : Int) == 0) = false := by rw [beq_eq_false_iff_ne]; omega
      clear hp hq hat1 hs1
      go_wp2_with fail
      go_ret
      exact ⟨by rw [HR.out]; rfl, HB2.out⟩
  · have HR : Hid (withF s.data.toList d.data.toList = false) := by unfold Hid; rw [HW.out, decide_eq_false hp]; simp
    have hqb : ((partsF s.data.toList : Int) == 0) = false := by rw [beq_eq_false_iff_ne]; omega
    clear hp
    go_wp2_with fail
    go_ret
    exact ⟨by rw [HR.out]; rfl, HB2.out⟩
end Go.Proofs.YtlpglabhjbfjgaaDoor
