/- The walks over the reference's Valid and Order, and over its comparisons. -/
import Derived.Test.YtfegmmafcopbpaaGreatDoorRg3
namespace Go.Proofs.YtfegmmafcopbpaaGreatDoor
open Go.RowKit

def sameTo (xs ys : List ByteArray) (k : Nat) : Prop := ∀ j, j < k → xs.getD j ByteArray.empty = ys.getD j ByteArray.empty
theorem sameTo_all {xs ys : List ByteArray} (hl : xs.length = ys.length) : sameTo xs ys xs.length ↔ xs = ys := by
  constructor
  · intro h
    apply List.ext_getElem hl
    intro i h1 h2
    have := h i h1
    rw [List.getD, List.getD, List.getElem?_eq_getElem h1, List.getElem?_eq_getElem h2] at this
    exact this
  · rintro rfl j _; rfl
def SameRel (w1 : World) (xs ys : List ByteArray) (f : Nat) (t5 : Value) (wr : World) : Prop :=
  ∃ k : Nat, t5 = .int .i64 (k : Nat) ∧ k ≤ xs.length ∧ f = xs.length - k ∧ sameTo xs ys k ∧ Below w1.heap.size w1 wr
theorem tl_eq (x y : ByteArray) : (x.toList == y.toList) = decide (x = y) := by
  rw [Bool.eq_iff_iff, beq_iff_eq, decide_eq_true_eq, Lib.toList_data, Lib.toList_data]
  exact ⟨fun h => by rw [← Lib.mk_data x, h, Lib.mk_data], fun h => by rw [h]⟩

set_option maxRecDepth 100000 in
set_option maxHeartbeats 1600000 in
theorem same18_any (u v : Value) (xs ys : List ByteArray) (hl : xs.length ≤ 1000000) (w : World) (h : StrsAt w u xs) (k : StrsAt w v ys) : Calls Tryz.prog 18 #[u, v] w fun e w' => e = .returned (.bool (decide (xs = ys))) ∧ Below w.heap.size w w' := by
  obtain ⟨ao, cap, rfl⟩ := h.form
  obtain ⟨bo, cbp, rfl⟩ := k.form
  have H := Lib.hid h
  have K := Lib.hid k
  clear h k
  go_enter Tryz.func18, Tryz.ntmps18
  by_cases hne : xs.length = ys.length
  · have t1 : ((xs.length : Int) != (ys.length : Int)) = false := by simp; omega
    have HSA := Lib.hid (sameTo_all hne)
    go_wp2_with fail
    go_loopg [5] xs.length (SameRel w xs ys)
    case atStart => exact ⟨0, rfl, Nat.zero_le _, rfl, fun j hj => by omega, Below.refl _ _⟩
    case round =>
      obtain ⟨k, rfl, hk, rfl, hall, hbel⟩ := hrel
      have HALL := Lib.hid hall
      have HB := Lib.hid hbel
      clear hall hbel
      by_cases hlt : k < xs.length
      · obtain ⟨b, off, rfl, hbl, hc⟩ := (H.out.below HB.out).at_ hlt
        obtain ⟨b2, off2, rfl, hbl2, hc2⟩ := (K.out.below HB.out).at_ (show k < ys.length by omega)
        have hii : (k : Int) < (xs.length : Int) := by omega
        have hjj : (k : Int) < (ys.length : Int) := by omega
        have HK : Hid (xs.getD k ByteArray.empty = ys.getD k ByteArray.empty → sameTo xs ys (k + 1)) := fun h j hj => by
          by_cases e : j = k
          · subst e; exact h
          · exact HALL.out j (by omega)
        have HK2 : Hid (¬ xs.getD k ByteArray.empty = ys.getD k ByteArray.empty → ¬ xs = ys) := fun h e => h (by rw [e])
        generalize xs.getD k ByteArray.empty = x at *
        generalize ys.getD k ByteArray.empty = y at *
        have hxy := tl_eq x y
        clear hne
        by_cases he : x = y
        · have HF := Lib.hid (HK.out he)
          have t2 : (!x.toList == y.toList) = false := by rw [hxy, decide_eq_true he]; rfl
          clear he HK HK2 hxy
          as_aux_lemma =>
          go_upto_region 6 with fail
          go_quiet (fail)
          go_wp2_with fail
          go_roundg (xs.length - (k + 1))
          case measure => omega
          case rel => exact ⟨k + 1, by go_num, by omega, rfl, HF.out, HB.out.trans ⟨rfl, rfl, rfl, Nat.le_refl _, fun _ _ => rfl⟩⟩
        · have HF := Lib.hid (HK2.out he)
          have t2 : (!x.toList == y.toList) = true := by rw [hxy, decide_eq_false he]; rfl
          clear he HK HK2 hxy
          as_aux_lemma =>
          go_upto_region 6 with fail
          go_quiet (fail)
          go_wp2_with fail
          go_ret
          exact ⟨by rw [decide_eq_false HF.out]; rfl, HB.out.trans ⟨rfl, rfl, rfl, Nat.le_refl _, fun _ _ => rfl⟩⟩
      · have he : k = xs.length := by omega
        subst he
        have HF := Lib.hid (HSA.out.1 HALL.out)
        clear hne
        go_wp2_with fail
        go_ret
        exact ⟨by rw [decide_eq_true HF.out]; rfl, HB.out⟩
  · have t1 : ((xs.length : Int) != (ys.length : Int)) = true := by rw [bne_iff_ne]; omega
    have HF : Hid (¬ xs = ys) := fun h => hne (by rw [h])
    clear hne
    go_wp2_with fail
    go_ret
    exact ⟨by rw [decide_eq_false HF.out]; rfl, Below.refl _ _⟩

theorem dts_eq {xs ys : List ByteArray} : xs = ys ↔ dts xs = dts ys := by
  constructor
  · rintro rfl; rfl
  · intro h
    have hl : xs.length = ys.length := by have := congrArg List.length h; simpa [dts] using this
    refine List.ext_getElem hl fun i h1 h2 => ?_
    have h3 : (dts xs)[i]? = (dts ys)[i]? := by rw [h]
    unfold dts at h3
    rw [List.getElem?_map, List.getElem?_map, List.getElem?_eq_getElem h1, List.getElem?_eq_getElem h2] at h3
    simp only [Option.map_some, Option.some.injEq] at h3
    exact data_inj h3
theorem rsame_any (u v : Value) (xs ys : List ByteArray) (hl : xs.length ≤ 1000000) (w : World) (h : StrsAt w u xs) (k : StrsAt w v ys) : Calls Tryz.prog 18 #[u, v] w fun e w' => e = .returned (.bool (decide (dts xs = dts ys))) ∧ Below w.heap.size w w' := by
  have h0 : decide (xs = ys) = decide (dts xs = dts ys) := decide_eq_decide.2 dts_eq
  rw [← h0]
  exact same18_any u v xs ys hl w h k

theorem grO_at (ns : List Nd) {k : Nat} (hk : k < ns.length) : (grO ns)[k]? = some ((ns.getD k default).id.data.toList, dts (ns.getD k default).needs) := by
  simp [grO, dts, List.getD, List.getElem?_eq_getElem hk]
def SNRel (w1 : World) (xs ys : Gr) (f : Nat) (t5 : Value) (wr : World) : Prop :=
  ∃ k : Nat, t5 = .int .i64 (k : Nat) ∧ k ≤ xs.length ∧ f = xs.length - k ∧ xs.take k = ys.take k ∧ Below w1.heap.size w1 wr

set_option maxRecDepth 100000 in
set_option maxHeartbeats 3200000 in
theorem samenodes_any (u v : Value) (xs ys : List Nd) (hl : xs.length ≤ 1000000) (hnl : ∀ x ∈ xs, x.needs.length ≤ 1000000) (w : World) (h : NdAt w u xs) (k : NdAt w v ys) : Calls Tryz.prog 15 #[u, v] w fun e w' => e = .returned (.bool (decide (grO xs = grO ys))) ∧ Below w.heap.size w w' := by
  obtain ⟨ao, cap, rfl⟩ := h.sl.form
  obtain ⟨bo, cbp, rfl⟩ := k.sl.form
  have H := Lib.hid h
  have K := Lib.hid k
  have HNN := Lib.hid hnl
  have HLX := Lib.hid (grO_len xs)
  have HLY := Lib.hid (grO_len ys)
  clear h k hnl
  go_enter Tryz.func15, Tryz.ntmps15
  by_cases hne : xs.length = ys.length
  · have t1 : ((xs.length : Int) != (ys.length : Int)) = false := by simp; omega
    have HNE := Lib.hid hne
    go_wp2_with fail
    go_loopg [5] xs.length (SNRel w (grO xs) (grO ys))
    case atStart => exact ⟨0, rfl, Nat.zero_le _, by rw [HLX.out]; rfl, rfl, Below.refl _ _⟩
    case round =>
      obtain ⟨k, rfl, hk, hff, htk, hb⟩ := hrel
      rw [HLX.out] at hk hff
      subst hff
      have HTK := Lib.hid htk
      have HB := Lib.hid hb
      clear htk hb hne
      by_cases hlt : k < xs.length
      · have hlt2 : k < ys.length := by have := HNE.out; omega
        obtain ⟨b, off, rfl, hbl, hc, hd, hsx⟩ := (H.out.below HB.out).at2 hlt
        obtain ⟨b2, off2, rfl, hbl2, hc2, hd2, hsy⟩ := (K.out.below HB.out).at2 hlt2
        have hii : (k : Int) < (xs.length : Int) := by omega
        have hjj : (k : Int) < (ys.length : Int) := by omega
        have HX := Lib.hid (grO_at xs hlt)
        have HY := Lib.hid (grO_at ys hlt2)
        have hln := HNN.out (xs.getD k default) (by rw [List.getD, List.getElem?_eq_getElem hlt]; exact List.getElem_mem hlt)
        obtain ⟨xao, xcap, hxe⟩ := hsx.form
        obtain ⟨yao, ycap, hye⟩ := hsy.form
        rw [hxe] at hd hsx
        rw [hye] at hd2 hsy
        have SA := Lib.hid (rsame_any _ _ (xs.getD k default).needs (ys.getD k default).needs hln wr.drew (hsx.below ⟨rfl, rfl, rfl, Nat.le_refl _, fun _ _ => rfl⟩) (hsy.below ⟨rfl, rfl, rfl, Nat.le_refl _, fun _ _ => rfl⟩))
        clear hxe hye hsx hsy hln
        generalize hx : (xs.getD k default).id = x at *
        generalize (xs.getD k default).needs = nx at *
        generalize hy : (ys.getD k default).id = y at *
        generalize (ys.getD k default).needs = ny at *
        clear hx hy
        have hxy := tl_eqR x y
        by_cases he : x.data.toList = y.data.toList
        · rw [decide_eq_true he] at hxy
          have t2 : (!x.toList == y.toList) = false := by rw [hxy]; rfl
          by_cases hn : dts nx = dts ny
          · have HF : Hid ((grO xs).take (k + 1) = (grO ys).take (k + 1)) := by unfold Hid; rw [List.take_add_one, List.take_add_one, HX.out, HY.out, HTK.out, he, hn]
            rw [decide_eq_true hn] at SA
            clear he hn hxy
            as_aux_lemma =>
            go_upto_region 6 with fail
            go_still_tail 22, (by kernel_rfl)
            change wpList _ _ _ _ _ (World.drew _)
            go_wp2_with fail
            refine SA.out.mono ?_
            rintro e w5 ⟨rfl, hb5⟩
            have HB5 := Lib.hid ((HB.out.drew).trans (hb5.mono HB.out.size))
            clear hb5
            go_wp2_with fail
            go_roundg (xs.length - (k + 1))
            case measure => omega
            case rel => exact ⟨k + 1, by go_num, by rw [HLX.out]; omega, by rw [HLX.out], HF.out, HB5.out⟩
          · have HF : Hid (¬ grO xs = grO ys) := fun e => by
              have h1 := HX.out
              rw [e, HY.out] at h1
              injection h1 with h1
              injection h1 with _ h1
              exact hn h1.symm
            rw [decide_eq_false hn] at SA
            clear he hn hxy
            as_aux_lemma =>
            go_upto_region 6 with fail
            go_still_tail 22, (by kernel_rfl)
            change wpList _ _ _ _ _ (World.drew _)
            go_wp2_with fail
            refine SA.out.mono ?_
            rintro e w5 ⟨rfl, hb5⟩
            have HB5 := Lib.hid ((HB.out.drew).trans (hb5.mono HB.out.size))
            clear hb5
            go_wp2_with fail
            go_ret
            exact ⟨by rw [decide_eq_false HF.out]; rfl, HB5.out⟩
        · rw [decide_eq_false he] at hxy
          have t2 : (!x.toList == y.toList) = true := by rw [hxy]; rfl
          have HF : Hid (¬ grO xs = grO ys) := fun e => by
            have h1 := HX.out
            rw [e, HY.out] at h1
            injection h1 with h1
            injection h1 with h1 _
            exact he h1.symm
          clear he hxy SA
          as_aux_lemma =>
          go_upto_region 6 with fail
          go_quiet (fail)
          go_wp2_with fail
          go_ret
          exact ⟨by rw [decide_eq_false HF.out]; rfl, HB.out.trans ⟨rfl, rfl, rfl, Nat.le_refl _, fun _ _ => rfl⟩⟩
      · have he : k = xs.length := by omega
        subst he
        have HF : Hid (grO xs = grO ys) := by
          have h1 := HTK.out
          rw [← HLX.out, List.take_length, HLX.out, HNE.out, ← HLY.out, List.take_length] at h1
          exact h1
        as_aux_lemma =>
        go_wp2_with fail
        go_ret
        exact ⟨by rw [decide_eq_true HF.out]; rfl, HB.out⟩
  · have t1 : ((xs.length : Int) != (ys.length : Int)) = true := by rw [bne_iff_ne]; omega
    have HF : Hid (¬ grO xs = grO ys) := fun h => hne (by rw [← HLX.out, ← HLY.out, h])
    clear hne
    go_wp2_with fail
    go_ret
    exact ⟨by rw [decide_eq_false HF.out]; rfl, Below.refl _ _⟩

theorem grO_sizes {ns : List Nd} (hS : Sound (grO ns)) : ∀ x ∈ ns, x.id.size ≤ 9223372036854775807 := by
  intro x hx
  have h1 := hS.parts (x.id.data.toList, x.needs.map (·.data.toList)) (List.mem_map.2 ⟨x, hx, rfl⟩)
  have h2 : x.id.size ≤ 512 := by
    unfold partsF at h1
    rw [Lib.size_eq]
    by_cases h3 : 512 < x.id.data.toList.length
    · rw [if_pos h3] at h1; cases h1
    · omega
  omega
set_option maxRecDepth 100000 in
set_option maxHeartbeats 1600000 in
theorem rvalid_any (nv : Value) (ns : List Nd) (hl : ns.length ≤ 1000000000) (hnl : ∀ x ∈ ns, x.needs.length ≤ 9223372036854775807) (w : World) (h : NdAt w nv ns) : Calls Tryz.prog 17 #[nv] w fun e w' => e = .returned (.int .i64 (validF (grO ns) : Nat)) ∧ Below w.heap.size w w' := by
  have HF := Lib.hid (rformed_any nv ns (by omega) hnl w h)
  have HO : Hid (formedF (grO ns) = 0 → ∀ W, Below w.heap.size w W → Calls Tryz.prog 37 #[nv] W (ROrdPost ns W)) := fun h0 W hW => rorder_any nv ns (formed_sound h0) (fun x hx => Nat.le_trans (sound_needs (formed_sound h0) x hx) (by decide)) (grO_sizes (formed_sound h0)) W (h.below hW)
  obtain ⟨ao, cap, rfl⟩ := h.sl.form
  have HL := Lib.hid (grO_len ns)
  have HLI := Lib.hid (ordG_listed (grO ns)).len
  clear h hnl
  go_enter Tryz.func17, Tryz.ntmps17
  by_cases h1 : formedF (grO ns) = 0
  · have HV : Hid (validF (grO ns) = if (ordG (grO ns)).length < ns.length then 14 else 0) := by unfold Hid validF; rw [if_neg (by simp [h1]), HL.out]
    have HO1 := Lib.hid (HO.out h1)
    rw [h1] at HF
    clear h1 HO
    go_wp2_with fail
    refine HF.out.mono ?_
    rintro e w1 ⟨rfl, hb⟩
    have HB := Lib.hid hb
    have HO2 := Lib.hid (HO1.out w1 hb)
    clear hb HF HO1
    go_wp2_with fail
    refine HO2.out.mono ?_
    rintro e w2 ⟨v, rfl, hn, hb2⟩
    obtain ⟨vao, vcap, rfl⟩ := hn.sl.form
    rw [nodes_len]
    have HB2 := Lib.hid (HB.out.trans (hb2.mono HB.out.size))
    clear hn hb2 HO2
    generalize (ordG (grO ns)).length = L at *
    by_cases h2 : L < ns.length
    · have h2i : (L : Int) < (ns.length : Int) := by omega
      rw [if_pos h2] at HV
      as_aux_lemma =>
      go_wp2_with fail
      go_ret
      exact ⟨by rw [HV.out]; rfl, HB2.out⟩
    · have h2i : decide ((L : Int) < (ns.length : Int)) = false := by simp; omega
      rw [if_neg h2] at HV
      as_aux_lemma =>
      go_wp2_with fail
      go_ret
      exact ⟨by rw [HV.out]; rfl, HB2.out⟩
  · have HV : Hid (validF (grO ns) = formedF (grO ns)) := by unfold Hid validF; rw [if_pos (by simpa using h1)]
    have h2i : (((formedF (grO ns) : Nat) : Int) != 0) = true := by simp; exact h1
    clear h1 HO
    generalize formedF (grO ns) = fo at *
    go_wp2_with fail
    refine HF.out.mono ?_
    rintro e w1 ⟨rfl, hb⟩
    have HB := Lib.hid hb
    clear hb HF
    go_wp2_with fail
    go_ret
    exact ⟨by rw [HV.out]; rfl, HB.out⟩

def ROrderPost (ns : List Nd) (w : World) (e : Ending) (w' : World) : Prop :=
  ∃ r os, e = .returned (.tuple #[r, .int .i64 (validF (grO ns) : Nat)]) ∧ NdAt w' r os ∧ (validF (grO ns) = 0 → grO os = orderF (grO ns)) ∧ (validF (grO ns) ≠ 0 → os = []) ∧ Below w.heap.size w w'
set_option maxRecDepth 100000 in
set_option maxHeartbeats 1600000 in
theorem rorderf_any (nv : Value) (ns : List Nd) (hl : ns.length ≤ 1000000000) (hnl : ∀ x ∈ ns, x.needs.length ≤ 9223372036854775807) (w : World) (h : NdAt w nv ns) : Calls Tryz.prog 14 #[nv] w (ROrderPost ns w) := by
  have HF := Lib.hid (rvalid_any nv ns hl hnl w h)
  have HO : Hid (validF (grO ns) = 0 → ∀ W, Below w.heap.size w W → Calls Tryz.prog 37 #[nv] W (ROrdPost ns W)) := fun h0 W hW => by
    have h1 : formedF (grO ns) = 0 := by
      unfold validF at h0
      by_cases h2 : formedF (grO ns) = 0
      · exact h2
      · rw [if_pos (by simpa using h2)] at h0; exact h0
    exact rorder_any nv ns (formed_sound h1) (fun x hx => Nat.le_trans (sound_needs (formed_sound h1) x hx) (by decide)) (grO_sizes (formed_sound h1)) W (h.below hW)
  obtain ⟨ao, cap, rfl⟩ := h.sl.form
  have HOF : Hid (grO (nodesL ns (ordG (grO ns))) = orderF (grO ns)) := nodesL_gr ns fun k hk => by have := (ordG_listed (grO ns)).lt k hk; rwa [grO_len] at this
  clear h hnl
  go_enter Tryz.func14, Tryz.ntmps14
  by_cases h1 : validF (grO ns) = 0
  · have HV := Lib.hid h1
    have HO1 := Lib.hid (HO.out h1)
    rw [h1] at HF
    clear h1 HO
    go_wp2_with fail
    refine HF.out.mono ?_
    rintro e w1 ⟨rfl, hb⟩
    have HB := Lib.hid hb
    have HO2 := Lib.hid (HO1.out w1 hb)
    clear hb HF HO1
    go_wp2_with fail
    refine HO2.out.mono ?_
    rintro e w2 ⟨v, rfl, hn, hb2⟩
    have HN := Lib.hid hn
    have HB2 := Lib.hid (HB.out.trans (hb2.mono HB.out.size))
    clear hn hb2 HO2
    go_wp2_with fail
    go_ret2
    exact ⟨_, _, by rw [HV.out]; rfl, HN.out, fun _ => HOF.out, fun h => absurd HV.out h, HB2.out⟩
  · have HV := Lib.hid h1
    obtain ⟨ve, hve⟩ : ∃ ve, validF (grO ns) = ve := ⟨_, rfl⟩
    have HVE := Lib.hid hve
    rw [hve] at h1 HF
    have h2i : ((ve : Int) != 0) = true := by simp; exact h1
    clear h1 HO hve
    go_wp2_with fail
    refine HF.out.mono ?_
    rintro e w1 ⟨rfl, hb⟩
    have HB := Lib.hid hb
    clear hb HF
    go_wp2_with fail
    go_ret2
    exact ⟨_, [], by rw [HVE.out]; rfl, ⟨.inl ⟨_, _, rfl, rfl⟩, by intro x hx; cases hx⟩, fun h => absurd h HV.out, fun _ => rfl, HB.out⟩
end Go.Proofs.YtfegmmafcopbpaaGreatDoor
