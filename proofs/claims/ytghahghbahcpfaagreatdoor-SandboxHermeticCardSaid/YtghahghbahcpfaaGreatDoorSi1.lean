/- The walks over slices.Clone at strings, entries and timings, and over sandbox's chosen at files and outputs. -/
import Derived.Test.YtghahghbahcpfaaGreatDoorVs3
import Derived.Test.YtghahghbahcpfaaGreatDoorVs4
import Derived.Test.YtghahghbahcpfaaGreatDoorVs7
namespace Go.Proofs.YtghahghbahcpfaaGreatDoor
open Go.RowKit

abbrev tFile : TypeId := 85
abbrev tEnt : TypeId := 76
abbrev tTim : TypeId := 115
theorem Tryz.infoFile : (Tryz.prog.info? tFile).map (fun i => (i.zero, i.size, i.bytes)) = some (some (.agg #[.string ⟨#[]⟩, .int .u64 0]), 2, 24) := by kernel_rfl
theorem Tryz.infoFile' : ∃ i, Tryz.prog.info? tFile = some i ∧ i.zero = some (.agg #[.string ⟨#[]⟩, .int .u64 0]) ∧ i.size = 2 ∧ i.bytes = 24 := info_parts Tryz.infoFile
theorem Tryz.infoTim : (Tryz.prog.info? tTim).map (fun i => (i.zero, i.size, i.bytes)) = some (some (.agg #[.string ⟨#[]⟩, .int .i64 0]), 2, 24) := by kernel_rfl
theorem Tryz.infoTim' : ∃ i, Tryz.prog.info? tTim = some i ∧ i.zero = some (.agg #[.string ⟨#[]⟩, .int .i64 0]) ∧ i.size = 2 ∧ i.bytes = 24 := info_parts Tryz.infoTim
set_option maxRecDepth 100000 in
set_option maxHeartbeats 1600000 in
theorem sclone_any (L : List ByteArray) (v : Value) (B : Nat → Prop) (hl : L.length ≤ 1000000) (w : World) (h : EStr.Row B w L v) :
    Calls Tryz.prog 49 #[v] w fun e w' => ∃ r, e = .returned r ∧ EStr.Own 9 w.heap.size noB w' L r ∧ Below w.heap.size w w' := by
  obtain ⟨ao, cap, rfl⟩ := h.form
  obtain ⟨iV, hiV, hzV, hnV, hyV⟩ := Tryz.infoStr'
  have HI := Lib.hid hiV
  have qq : ∀ (w : World) (a : Option Addr) (n c n' c' : Nat), (binOp .eql 22 (.slice a n c) (.slice none n' c')).run Tryz.prog w = .ok (.bool a.isNone) w := fun w a n c n' c' => Lib.run_eql_slice_nil w _ _ a n c n' c' Tryz.underlying22
  have HO1 : Hid (EStr.Own 9 w.heap.size (fun _ => True) (w.alloc (.cells #[] 9)) [] (.slice (some ⟨w.heap.size, 0, none⟩) 0 0)) := ⟨[], rfl, fun k h => absurd h (Nat.not_lt_zero k), World.ownsRow_made w #[] 0 (Nat.le_refl _) (Nat.zero_le _) rfl⟩
  have HM : Hid (EStr.Row (fun b => True ∧ (Value.slice (some ⟨w.heap.size, 0, none⟩) 0 0).ownBlock ≠ some b) (w.alloc (.cells #[] 9)) L (.slice ao L.length cap)) := by
    refine (h.lt.below ((Below.refl _ w).alloc (Nat.le_refl _) _)).mono fun b hb => ⟨trivial, fun e => ?_⟩
    have e : w.heap.size = b := Option.some.inj e
    omega
  have HNL : Hid (ao = none → L = []) := fun e => by
    rcases h with ⟨_, _, _, e2⟩ | ⟨b, off, c, e2, _⟩
    · exact e2
    · subst e; injection e2 with e3; cases e3
  clear h hiV
  go_enter Tryz.func49, Tryz.ntmps49
  cases ao with
  | none =>
    have h0 := HNL.out rfl
    subst h0
    go_wp2_with fail
    go_ret
    exact ⟨_, rfl, .nil, Below.refl _ _⟩
  | some ad =>
    go_wp2_with (at_builtin; refine wpList_own_all (E := EStr) rfl _ _ 22 rfl w.heap.size 9 iV _ 16 Tryz.underlying22 HI.out hzV hnV hyV rfl [] _ rfl HO1.out L (some ad) cap HM.out rfl (by unfold maxLen; simp; omega) (by simp; omega) (by simp) ?_)
    intro v' w3 hown hgrow
    have HOWN : Hid (EStr.Own 9 w.heap.size noB w3 L v') := by
      obtain ⟨css, h1, h2, h3⟩ := (show EStr.Own 9 w.heap.size (fun _ => True) w3 L v' from hown)
      exact ⟨css, h1, h2, h3⟩
    have HBG : Hid (Below w.heap.size w w3) := ((Below.refl _ w).alloc (Nat.le_refl _) _).trans (below_grown hgrow (by simp) (fun q e => by have e : w.heap.size = q := Option.some.inj e; omega))
    clear hown hgrow HO1 HM
    go_wp2_with fail
    go_ret
    exact ⟨_, rfl, HOWN.out, HBG.out⟩
set_option maxRecDepth 100000 in
set_option maxHeartbeats 1600000 in
theorem eclone_any (L : List EntM) (v : Value) (B : Nat → Prop) (hl : L.length ≤ 1000000) (w : World) (h : EEnt.Row B w L v) :
    Calls Tryz.prog 50 #[v] w fun e w' => ∃ r, e = .returned r ∧ EEnt.Own tEnt w.heap.size noB w' L r ∧ Below w.heap.size w w' := by
  obtain ⟨ao, cap, rfl⟩ := h.form
  obtain ⟨iV, hiV, hzV, hnV, hyV⟩ := Tryz.infoEnt'
  have HI := Lib.hid hiV
  have qq : ∀ (w : World) (a : Option Addr) (n c n' c' : Nat), (binOp .eql 42 (.slice a n c) (.slice none n' c')).run Tryz.prog w = .ok (.bool a.isNone) w := fun w a n c n' c' => Lib.run_eql_slice_nil w _ _ a n c n' c' Tryz.underlying42
  have HO1 : Hid (EEnt.Own tEnt w.heap.size (fun _ => True) (w.alloc (.cells #[] tEnt)) [] (.slice (some ⟨w.heap.size, 0, none⟩) 0 0)) := ⟨[], rfl, fun k h => absurd h (Nat.not_lt_zero k), World.ownsRow_made w #[] 0 (Nat.le_refl _) (Nat.zero_le _) rfl⟩
  have HM : Hid (EEnt.Row (fun b => True ∧ (Value.slice (some ⟨w.heap.size, 0, none⟩) 0 0).ownBlock ≠ some b) (w.alloc (.cells #[] tEnt)) L (.slice ao L.length cap)) := by
    refine (h.lt.below ((Below.refl _ w).alloc (Nat.le_refl _) _)).mono fun b hb => ⟨trivial, fun e => ?_⟩
    have e : w.heap.size = b := Option.some.inj e
    omega
  have HNL : Hid (ao = none → L = []) := fun e => by
    rcases h with ⟨_, _, _, e2⟩ | ⟨b, off, c, e2, _⟩
    · exact e2
    · subst e; injection e2 with e3; cases e3
  clear h hiV
  go_enter Tryz.func50, Tryz.ntmps50
  cases ao with
  | none =>
    have h0 := HNL.out rfl
    subst h0
    go_wp2_with fail
    go_ret
    exact ⟨_, rfl, .nil, Below.refl _ _⟩
  | some ad =>
    go_wp2_with (at_builtin; refine wpList_own_all (E := EEnt) rfl _ _ 42 rfl w.heap.size tEnt iV _ 88 Tryz.underlying42 HI.out hzV hnV hyV rfl [] _ rfl HO1.out L (some ad) cap HM.out rfl (by unfold maxLen; simp; omega) (by simp; omega) (by simp) ?_)
    intro v' w3 hown hgrow
    have HOWN : Hid (EEnt.Own tEnt w.heap.size noB w3 L v') := by
      obtain ⟨css, h1, h2, h3⟩ := (show EEnt.Own tEnt w.heap.size (fun _ => True) w3 L v' from hown)
      exact ⟨css, h1, h2, h3⟩
    have HBG : Hid (Below w.heap.size w w3) := ((Below.refl _ w).alloc (Nat.le_refl _) _).trans (below_grown hgrow (by simp) (fun q e => by have e : w.heap.size = q := Option.some.inj e; omega))
    clear hown hgrow HO1 HM
    go_wp2_with fail
    go_ret
    exact ⟨_, rfl, HOWN.out, HBG.out⟩
set_option maxRecDepth 100000 in
set_option maxHeartbeats 1600000 in
theorem tclone_any (L : List TimM) (v : Value) (B : Nat → Prop) (hl : L.length ≤ 1000000) (w : World) (h : ETim.Row B w L v) :
    Calls Tryz.prog 51 #[v] w fun e w' => ∃ r, e = .returned r ∧ ETim.Own tTim w.heap.size noB w' L r ∧ Below w.heap.size w w' := by
  obtain ⟨ao, cap, rfl⟩ := h.form
  obtain ⟨iV, hiV, hzV, hnV, hyV⟩ := Tryz.infoTim'
  have HI := Lib.hid hiV
  have qq : ∀ (w : World) (a : Option Addr) (n c n' c' : Nat), (binOp .eql 43 (.slice a n c) (.slice none n' c')).run Tryz.prog w = .ok (.bool a.isNone) w := fun w a n c n' c' => Lib.run_eql_slice_nil w _ _ a n c n' c' Tryz.underlying43
  have HO1 : Hid (ETim.Own tTim w.heap.size (fun _ => True) (w.alloc (.cells #[] tTim)) [] (.slice (some ⟨w.heap.size, 0, none⟩) 0 0)) := ⟨[], rfl, fun k h => absurd h (Nat.not_lt_zero k), World.ownsRow_made w #[] 0 (Nat.le_refl _) (Nat.zero_le _) rfl⟩
  have HM : Hid (ETim.Row (fun b => True ∧ (Value.slice (some ⟨w.heap.size, 0, none⟩) 0 0).ownBlock ≠ some b) (w.alloc (.cells #[] tTim)) L (.slice ao L.length cap)) := by
    refine (h.lt.below ((Below.refl _ w).alloc (Nat.le_refl _) _)).mono fun b hb => ⟨trivial, fun e => ?_⟩
    have e : w.heap.size = b := Option.some.inj e
    omega
  have HNL : Hid (ao = none → L = []) := fun e => by
    rcases h with ⟨_, _, _, e2⟩ | ⟨b, off, c, e2, _⟩
    · exact e2
    · subst e; injection e2 with e3; cases e3
  clear h hiV
  go_enter Tryz.func51, Tryz.ntmps51
  cases ao with
  | none =>
    have h0 := HNL.out rfl
    subst h0
    go_wp2_with fail
    go_ret
    exact ⟨_, rfl, .nil, Below.refl _ _⟩
  | some ad =>
    go_wp2_with (at_builtin; refine wpList_own_all (E := ETim) rfl _ _ 43 rfl w.heap.size tTim iV _ 24 Tryz.underlying43 HI.out hzV hnV hyV rfl [] _ rfl HO1.out L (some ad) cap HM.out rfl (by unfold maxLen; simp; omega) (by simp; omega) (by simp) ?_)
    intro v' w3 hown hgrow
    have HOWN : Hid (ETim.Own tTim w.heap.size noB w3 L v') := by
      obtain ⟨css, h1, h2, h3⟩ := (show ETim.Own tTim w.heap.size (fun _ => True) w3 L v' from hown)
      exact ⟨css, h1, h2, h3⟩
    have HBG : Hid (Below w.heap.size w w3) := ((Below.refl _ w).alloc (Nat.le_refl _) _).trans (below_grown hgrow (by simp) (fun q e => by have e : w.heap.size = q := Option.some.inj e; omega))
    clear hown hgrow HO1 HM
    go_wp2_with fail
    go_ret
    exact ⟨_, rfl, HOWN.out, HBG.out⟩
def ChfRel (p : FileM → Bool) (L : List FileM) (w1 : World) (f : Nat) (t5 t10 : Value) (wr : World) : Prop :=
  ∃ i : Nat, t10 = .int .i64 (i : Nat) ∧ i ≤ L.length ∧ f = L.length - i ∧ EFile.Own tFile w1.heap.size noB wr ((L.take i).filter p) t5 ∧ Below w1.heap.size w1 wr
set_option maxRecDepth 100000 in
set_option maxHeartbeats 3200000 in
theorem chosen_f (g : Nat) (caps : Array Value) (p : FileM → Bool) (L : List FileM) (v : Value) (B : Nat → Prop) (hl : L.length ≤ 1000000) (w : World) (h : EFile.Row B w L v)
    (hg : ∀ (k : Nat) (hk : k < L.length) (cs : List Value) (W : World), Below w.heap.size w W → EFile.R B W L[k] cs → Calls Tryz.prog g (#[.agg cs.toArray] ++ caps) W fun e w' => e = .returned (.bool (p L[k])) ∧ Below W.heap.size W w')
    (eg : ∀ args w, (callFunc g args).run Tryz.prog w = .ok (.enter g args) w) :
    Calls Tryz.prog 44 #[v, .func (.func g) #[] caps] w fun e w' => ∃ u, e = .returned u ∧ EFile.Own tFile w.heap.size noB w' (L.filter p) u ∧ Below w.heap.size w w' := by
  obtain ⟨ao, cap, rfl⟩ := h.form
  obtain ⟨iS, hiS, hzS, hnS, hyS⟩ := Tryz.infoFile'
  have HI := Lib.hid hiS
  have H := Lib.hid h
  have HG := Lib.hid hg
  clear h hg hiS
  go_enter Tryz.func44, Tryz.ntmps44
  go_wp2_with fail
  go_loopg [5, 10] L.length (fun f t5 t10 wr => ChfRel p L w f t5 t10 wr)
  case atStart => exact ⟨0, rfl, Nat.zero_le _, rfl, ElemK.Own.nil, Below.refl _ _⟩
  case round =>
    obtain ⟨i, rfl, hi, rfl, hown, hbel⟩ := hrel
    have HB := Lib.hid hbel
    obtain ⟨co, cc, rfl⟩ := hown.form
    have HO := Lib.hid hown
    clear hown hbel
    by_cases hlt : i < L.length
    · obtain ⟨bl, off, cs, rfl, hBb, hbl, hc, hR⟩ := (H.out.below HB.out).at hlt
      have hcs : cs = [.string L[i].path, .int .u64 (L[i].dig : Nat)] := hR
      subst hcs
      have e0 : wr.cell? ⟨bl, off + i * 2 + 0, none⟩ = _ := hc 0 _ rfl
      have e1 : wr.cell? ⟨bl, off + i * 2 + 1, none⟩ = _ := hc 1 _ rfl
      rw [Nat.add_zero] at e0
      have hii : (i : Int) < (L.length : Int) := by omega
      have CG0 : Hid (∀ W, Below w.heap.size w W → Calls Tryz.prog g (#[.agg #[.string L[i].path, .int .u64 (L[i].dig : Nat)]] ++ caps) W fun e w' => e = .returned (.bool (p L[i])) ∧ Below W.heap.size W w') := fun W hb => HG.out i hlt _ W hb rfl
      have HF := Lib.hid (filter_step p L hlt)
      have hfl := filter_take_len p L i
      generalize L[i] = y at *
      obtain ⟨ypath, ydig⟩ := y
      generalize hA : (L.take i).filter p = A at *
      generalize hpy : p ⟨ypath, ydig⟩ = b at *
      clear hA hc hR hpy
      as_aux_lemma =>
      go_wp2_with (refine wpList_store_row rfl tFile _ _ rfl wr.heap.size rfl tFile _ (hp_new rfl) (.agg #[.string ypath, .int .u64 (ydig : Nat)]) rfl (by kernel_rfl) rfl rfl ?_)
      intro w2 hw2
      have hk2 : w2.heap[wr.heap.size]? = some (.cells #[.string ypath, .int .u64 (ydig : Nat)] tFile (0, 0)) := hw2.at_
      have HB2 : Hid (Below wr.heap.size wr w2) := ((Below.refl _ wr).alloc (Nat.le_refl _) _).trans (hw2.below (Nat.le_refl _))
      have HBB : Hid (Below w.heap.size w w2) := HB.out.trans (HB2.out.mono HB.out.size)
      have HK2 := Lib.hid hk2
      have HO2 := Lib.hid (HO.out.below HB2.out)
      have s0 : w2.cell? ⟨wr.heap.size, 0, none⟩ = some (.string ypath) := cell_of_blk hk2 0
      have s1 : w2.cell? ⟨wr.heap.size, 1, none⟩ = some (.int .u64 (ydig : Nat)) := cell_of_blk hk2 1
      have z2 : wr.heap.size < w2.heap.size := (Array.getElem?_eq_some_iff.1 hk2).1
      have CG := Lib.hid (CG0.out w2 HBB.out)
      clear hw2 hk2 HB2 CG0 HO HB e0 e1
      go_wp2_with fail
      refine CG.out.mono ?_
      rintro e w5 ⟨rfl, hb⟩
      have HB5 := Lib.hid (HBB.out.trans (hb.mono HBB.out.size))
      have HO5 := Lib.hid (HO2.out.below hb)
      have HK5 : Hid (w5.heap[wr.heap.size]? = some (.cells #[.string ypath, .int .u64 (ydig : Nat)] tFile (0, 0))) := (hb.block _ z2).trans HK2.out
      have hz5 := HB5.out.size
      clear hb CG HO2 HK2 s0 s1
      cases b with
      | true =>
        rw [if_pos rfl] at HF
        obtain ⟨wa, hwa⟩ : ∃ wa, w5.alloc (.cells #[.string ypath, .int .u64 (ydig : Nat)] tFile) = wa := ⟨_, rfl⟩
        have hka : wa.heap[w5.heap.size]? = some (.cells #[.string ypath, .int .u64 (ydig : Nat)] tFile (0, 0)) := by rw [← hwa]; exact hp_new rfl
        have HBA : Hid (Below w5.heap.size w5 wa) := by unfold Hid; rw [← hwa]; exact (Below.refl _ _).alloc (Nat.le_refl _) _
        have HWA := Lib.hid hwa
        have HOA := Lib.hid (HO5.out.below HBA.out)
        have hza := HBA.out.size
        have s0 : w5.cell? ⟨wr.heap.size, 0, none⟩ = some (.string ypath) := cell_of_blk HK5.out 0
        have s1 : w5.cell? ⟨wr.heap.size, 1, none⟩ = some (.int .u64 (ydig : Nat)) := cell_of_blk HK5.out 1
        clear hwa HO5
        go_wp2_with (first
          | (refine wpList_build1 rfl 39 tFile _ rfl #[.string ypath, .int .u64 (ydig : Nat)] iS _ Tryz.underlying39 HI.out hzS 2 hnS (by decide) (by decide) rfl rfl ?_)
          | (at_builtin; rw [HWA.out]; refine wpList_own_push (E := EFile) rfl _ _ 39 rfl w.heap.size tFile iS _ 24 Tryz.underlying39 HI.out hzS hnS hyS rfl A (.slice co A.length cc) rfl HOA.out ⟨ypath, ydig⟩ [.string ypath, .int .u64 (ydig : Nat)] rfl w5.heap.size (0, 0) hka rfl (by unfold maxLen; omega) (by omega) (by omega) ?_))
        intro v6 w6 hown hgrow hpu
        obtain ⟨g6, p6, hv6⟩ := hpu.form
        subst hv6
        have HO6 := Lib.hid hown
        have HB6 : Hid (Below w.heap.size w w6) := (HB5.out.trans (HBA.out.mono HB5.out.size)).trans (below_grown hgrow (by omega) (fun q e => (HOA.out.low q e).1))
        clear hown hgrow hpu hka HOA HWA
        go_wp2_with fail
        go_roundg (L.length - (i + 1))
        case measure => omega
        case rel => exact ⟨i + 1, by go_num, by omega, rfl, by rw [HF.out]; exact HO6.out, HB6.out⟩
      | false =>
        rw [if_neg (by simp)] at HF
        go_wp2_with fail
        go_roundg (L.length - (i + 1))
        case measure => omega
        case rel => exact ⟨i + 1, by go_num, by omega, rfl, by rw [HF.out]; exact HO5.out, HB5.out⟩
    · have hii : ¬ (i : Int) < (L.length : Int) := by omega
      have he : i = L.length := by omega
      have HN : Hid ((L.take i).filter p = L.filter p) := by unfold Hid; rw [he, List.take_length]
      clear he
      go_wp2_with fail
      go_ret
      exact ⟨_, rfl, by rw [← HN.out]; exact HO.out, HB.out⟩
def ChoRel (p : OutM → Bool) (L : List OutM) (w1 : World) (f : Nat) (t5 t10 : Value) (wr : World) : Prop :=
  ∃ i : Nat, t10 = .int .i64 (i : Nat) ∧ i ≤ L.length ∧ f = L.length - i ∧ EOut.Own tOut w1.heap.size noB wr ((L.take i).filter p) t5 ∧ Below w1.heap.size w1 wr
set_option maxRecDepth 100000 in
set_option maxHeartbeats 3200000 in
theorem chosen_o (g : Nat) (caps : Array Value) (p : OutM → Bool) (L : List OutM) (v : Value) (B : Nat → Prop) (hl : L.length ≤ 1000000) (w : World) (h : EOut.Row B w L v)
    (hg : ∀ (k : Nat) (hk : k < L.length) (cs : List Value) (W : World), Below w.heap.size w W → EOut.R B W L[k] cs → Calls Tryz.prog g (#[.agg cs.toArray] ++ caps) W fun e w' => e = .returned (.bool (p L[k])) ∧ Below W.heap.size W w')
    (eg : ∀ args w, (callFunc g args).run Tryz.prog w = .ok (.enter g args) w) :
    Calls Tryz.prog 46 #[v, .func (.func g) #[] caps] w fun e w' => ∃ u, e = .returned u ∧ EOut.Own tOut w.heap.size noB w' (L.filter p) u ∧ Below w.heap.size w w' := by
  obtain ⟨ao, cap, rfl⟩ := h.form
  obtain ⟨iS, hiS, hzS, hnS, hyS⟩ := Tryz.infoOut'
  have HI := Lib.hid hiS
  have H := Lib.hid h
  have HG := Lib.hid hg
  clear h hg hiS
  go_enter Tryz.func46, Tryz.ntmps46
  go_wp2_with fail
  go_loopg [5, 10] L.length (fun f t5 t10 wr => ChoRel p L w f t5 t10 wr)
  case atStart => exact ⟨0, rfl, Nat.zero_le _, rfl, ElemK.Own.nil, Below.refl _ _⟩
  case round =>
    obtain ⟨i, rfl, hi, rfl, hown, hbel⟩ := hrel
    have HB := Lib.hid hbel
    obtain ⟨co, cc, rfl⟩ := hown.form
    have HO := Lib.hid hown
    clear hown hbel
    by_cases hlt : i < L.length
    · obtain ⟨bl, off, cs, rfl, hBb, hbl, hc, hR⟩ := (H.out.below HB.out).at hlt
      have hcs : cs = [.string L[i].name, .int .u64 (L[i].dig : Nat), .int .i64 L[i].size] := hR
      subst hcs
      have e0 : wr.cell? ⟨bl, off + i * 3 + 0, none⟩ = _ := hc 0 _ rfl
      have e1 : wr.cell? ⟨bl, off + i * 3 + 1, none⟩ = _ := hc 1 _ rfl
      have e2 : wr.cell? ⟨bl, off + i * 3 + 2, none⟩ = _ := hc 2 _ rfl
      rw [Nat.add_zero] at e0
      have hii : (i : Int) < (L.length : Int) := by omega
      have CG0 : Hid (∀ W, Below w.heap.size w W → Calls Tryz.prog g (#[.agg #[.string L[i].name, .int .u64 (L[i].dig : Nat), .int .i64 L[i].size]] ++ caps) W fun e w' => e = .returned (.bool (p L[i])) ∧ Below W.heap.size W w') := fun W hb => HG.out i hlt _ W hb rfl
      have HF := Lib.hid (filter_step p L hlt)
      have hfl := filter_take_len p L i
      generalize L[i] = y at *
      obtain ⟨yname, ydig, ysize⟩ := y
      generalize hA : (L.take i).filter p = A at *
      generalize hpy : p ⟨yname, ydig, ysize⟩ = b at *
      clear hA hc hR hpy
      as_aux_lemma =>
      go_wp2_with (refine wpList_store_row rfl tOut _ _ rfl wr.heap.size rfl tOut _ (hp_new rfl) (.agg #[.string yname, .int .u64 (ydig : Nat), .int .i64 ysize]) rfl (by kernel_rfl) rfl rfl ?_)
      intro w2 hw2
      have hk2 : w2.heap[wr.heap.size]? = some (.cells #[.string yname, .int .u64 (ydig : Nat), .int .i64 ysize] tOut (0, 0)) := hw2.at_
      have HB2 : Hid (Below wr.heap.size wr w2) := ((Below.refl _ wr).alloc (Nat.le_refl _) _).trans (hw2.below (Nat.le_refl _))
      have HBB : Hid (Below w.heap.size w w2) := HB.out.trans (HB2.out.mono HB.out.size)
      have HK2 := Lib.hid hk2
      have HO2 := Lib.hid (HO.out.below HB2.out)
      have s0 : w2.cell? ⟨wr.heap.size, 0, none⟩ = some (.string yname) := cell_of_blk hk2 0
      have s1 : w2.cell? ⟨wr.heap.size, 1, none⟩ = some (.int .u64 (ydig : Nat)) := cell_of_blk hk2 1
      have s2 : w2.cell? ⟨wr.heap.size, 2, none⟩ = some (.int .i64 ysize) := cell_of_blk hk2 2
      have z2 : wr.heap.size < w2.heap.size := (Array.getElem?_eq_some_iff.1 hk2).1
      have CG := Lib.hid (CG0.out w2 HBB.out)
      clear hw2 hk2 HB2 CG0 HO HB e0 e1 e2
      go_wp2_with fail
      refine CG.out.mono ?_
      rintro e w5 ⟨rfl, hb⟩
      have HB5 := Lib.hid (HBB.out.trans (hb.mono HBB.out.size))
      have HO5 := Lib.hid (HO2.out.below hb)
      have HK5 : Hid (w5.heap[wr.heap.size]? = some (.cells #[.string yname, .int .u64 (ydig : Nat), .int .i64 ysize] tOut (0, 0))) := (hb.block _ z2).trans HK2.out
      have hz5 := HB5.out.size
      clear hb CG HO2 HK2 s0 s1 s2
      cases b with
      | true =>
        rw [if_pos rfl] at HF
        obtain ⟨wa, hwa⟩ : ∃ wa, w5.alloc (.cells #[.string yname, .int .u64 (ydig : Nat), .int .i64 ysize] tOut) = wa := ⟨_, rfl⟩
        have hka : wa.heap[w5.heap.size]? = some (.cells #[.string yname, .int .u64 (ydig : Nat), .int .i64 ysize] tOut (0, 0)) := by rw [← hwa]; exact hp_new rfl
        have HBA : Hid (Below w5.heap.size w5 wa) := by unfold Hid; rw [← hwa]; exact (Below.refl _ _).alloc (Nat.le_refl _) _
        have HWA := Lib.hid hwa
        have HOA := Lib.hid (HO5.out.below HBA.out)
        have hza := HBA.out.size
        have s0 : w5.cell? ⟨wr.heap.size, 0, none⟩ = some (.string yname) := cell_of_blk HK5.out 0
        have s1 : w5.cell? ⟨wr.heap.size, 1, none⟩ = some (.int .u64 (ydig : Nat)) := cell_of_blk HK5.out 1
        have s2 : w5.cell? ⟨wr.heap.size, 2, none⟩ = some (.int .i64 ysize) := cell_of_blk HK5.out 2
        clear hwa HO5
        go_wp2_with (first
          | (refine wpList_build1 rfl 40 tOut _ rfl #[.string yname, .int .u64 (ydig : Nat), .int .i64 ysize] iS _ Tryz.underlying40 HI.out hzS 3 hnS (by decide) (by decide) rfl rfl ?_)
          | (at_builtin; rw [HWA.out]; refine wpList_own_push (E := EOut) rfl _ _ 40 rfl w.heap.size tOut iS _ 32 Tryz.underlying40 HI.out hzS hnS hyS rfl A (.slice co A.length cc) rfl HOA.out ⟨yname, ydig, ysize⟩ [.string yname, .int .u64 (ydig : Nat), .int .i64 ysize] rfl w5.heap.size (0, 0) hka rfl (by unfold maxLen; omega) (by omega) (by omega) ?_))
        intro v6 w6 hown hgrow hpu
        obtain ⟨g6, p6, hv6⟩ := hpu.form
        subst hv6
        have HO6 := Lib.hid hown
        have HB6 : Hid (Below w.heap.size w w6) := (HB5.out.trans (HBA.out.mono HB5.out.size)).trans (below_grown hgrow (by omega) (fun q e => (HOA.out.low q e).1))
        clear hown hgrow hpu hka HOA HWA
        go_wp2_with fail
        go_roundg (L.length - (i + 1))
        case measure => omega
        case rel => exact ⟨i + 1, by go_num, by omega, rfl, by rw [HF.out]; exact HO6.out, HB6.out⟩
      | false =>
        rw [if_neg (by simp)] at HF
        go_wp2_with fail
        go_roundg (L.length - (i + 1))
        case measure => omega
        case rel => exact ⟨i + 1, by go_num, by omega, rfl, by rw [HF.out]; exact HO5.out, HB5.out⟩
    · have hii : ¬ (i : Int) < (L.length : Int) := by omega
      have he : i = L.length := by omega
      have HN : Hid ((L.take i).filter p = L.filter p) := by unfold Hid; rw [he, List.take_length]
      clear he
      go_wp2_with fail
      go_ret
      exact ⟨_, rfl, by rw [← HN.out]; exact HO.out, HB.out⟩
end Go.Proofs.YtghahghbahcpfaaGreatDoor
