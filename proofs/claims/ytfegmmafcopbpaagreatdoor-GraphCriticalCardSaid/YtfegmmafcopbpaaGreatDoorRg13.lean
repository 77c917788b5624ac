/- The walk over the reference's from: the best way from each node. -/
import Derived.Test.YtfegmmafcopbpaaGreatDoorRg10
import Derived.Deep.RegionHeld
import Derived.Deep.CutRange
namespace Go.Proofs.YtfegmmafcopbpaaGreatDoor
open Go.RowKit

def costR (cs : List Int) : Nat → Nat := fun k => (cs.getD k 0).toNat
abbrev ZsR (w : World) (v : Value) (l : List Int) : Prop := SlAt 1 (fun k => [Value.int .i64 k]) w v l
def FromPost (ns : List Nd) (cs : List Int) (w : World) (e : Ending) (w' : World) : Prop :=
  ∃ bo, e = .returned (.slice (some ⟨bo, 0, none⟩) ns.length ns.length) ∧ WyAt w' bo ns.length (fromTo (grO ns) (costR cs) (ordG (grO ns)).reverse) ∧ Below w.heap.size w w'
theorem costR_le {cs : List Int} (h : ∀ j, j < cs.length → 0 ≤ cs.getD j 0 ∧ cs.getD j 0 ≤ 1125899906842624) (k : Nat) : costR cs k ≤ 1125899906842624 := by
  unfold costR
  by_cases hk : k < cs.length
  · have := h k hk; omega
  · rw [List.getD, List.getElem?_eq_none (by omega)]; simp
theorem nodes_at (ns : List Nd) {L : List Nat} {i : Nat} (hi : i < L.length) : (nodesL ns L).getD i default = ns.getD (L.getD i 0) default := by
  unfold nodesL
  have e : L.getD i 0 = L[i] := by rw [List.getD, List.getElem?_eq_getElem hi]; rfl
  rw [e, List.getD, List.getElem?_map, List.getElem?_eq_getElem hi]
  rfl
/-- in a row of ways no cell is a string -/
theorem way_not_str {W : World} {bo n : Nat} {O : Nat → Way} (h : WyAt W bo n O) {q : Nat} {s : ByteArray} (hc : W.cell? ⟨bo, q, none⟩ = some (.string s)) : False := by
  obtain ⟨cur, hg, hs, _, h2⟩ := h.blk
  rw [cell_of_blk hg] at hc
  have hq : q < n * 2 := by
    have := (Array.getElem?_eq_some_iff.1 hc).1
    omega
  obtain ⟨u, ps, a, b, c, _⟩ := h2 (q / 2) (by omega)
  rw [Array.getElem?_toList] at a b
  rcases Nat.mod_two_eq_zero_or_one q with h0 | h0
  · rw [show q / 2 * 2 = q by omega, hc] at a
    cases a
  · rw [show q / 2 * 2 + 1 = q by omega, hc] at b
    injection b with b
    subst b
    obtain ⟨ao, cap, e⟩ := ownsRow_form c
    cases e
theorem kp_cell {R : Nat} {X : Nat → Prop} {w w1 : World} (h : Kp R X w w1) {b q : Nat} (hb : b < R) (hx : ¬ X b) : w1.cell? ⟨b, q, none⟩ = w.cell? ⟨b, q, none⟩ := by
  unfold World.cell?
  simp only [h.block b hb hx]

def RFrRel (w3 : World) (G : Gr) (C : Nat → Nat) (L : List Nat) (bo n : Nat) (f : Nat) (t7 _t8 _t9 _t10 _t11 : Value) (wr : World) : Prop :=
  ∃ (g : Nat) (z : Int), t7 = .int .i64 z ∧ g = f ∧ z = ((g : Nat) : Int) - 1 ∧ g ≤ L.length ∧ WyAt wr bo n (fromTo G C (L.drop g).reverse) ∧ Kp w3.heap.size (· = bo) w3 wr
def RFrIn (W0 : World) (G : Gr) (C : Nat → Nat) (O : Nat → Way) (bo bb k n : Nat) (f : Nat) (t10 _t11 : Value) (wr : World) : Prop :=
  ∃ j : Nat, t10 = .int .i64 (j : Nat) ∧ j ≤ n ∧ f = n - j ∧ Bst W0 bo bb wr (foldK G C O k j)

set_option maxRecDepth 100000 in
set_option maxHeartbeats 6400000 in
theorem rfrom_any (nv cv : Value) (ns : List Nd) (cs : List Int) (hS : Sound (grO ns)) (hf : (ordG (grO ns)).length = ns.length) (hcl : cs.length = ns.length) (hcz : ∀ j, j < cs.length → 0 ≤ cs.getD j 0 ∧ cs.getD j 0 ≤ 1125899906842624) (w : World) (h : NdAt w nv ns) (hc : ZsR w cv cs) :
    Calls Tryz.prog 58 #[nv, cv] w (FromPost ns cs w) := by
  have hl : ns.length ≤ 1024 := by have := hS.len; rwa [grO_len] at this
  have FA := fun W (hW : Below w.heap.size w W) s => Lib.hid (find_any nv ns s (by omega) W (h.below hW))
  have OA := fun W (hW : Below w.heap.size w W) => Lib.hid (rorder_any nv ns hS (fun x hx => Nat.le_trans (sound_needs hS x hx) (by decide)) (grO_sizes hS) W (h.below hW))
  obtain ⟨ao, cap, rfl⟩ := h.sl.form
  obtain ⟨cao, ccap, rfl⟩ := SlAt.form hc
  obtain ⟨i9, hi9⟩ := Tryz.info9'
  obtain ⟨i85, hi85⟩ := info_parts Tryz.info85
  have HI9 := Lib.hid hi9
  have HI85 := Lib.hid hi85
  have H := Lib.hid h
  have HC := Lib.hid hc
  have HSO := Lib.hid hS
  have HL := Lib.hid (grO_len ns)
  have HNN := Lib.hid (sound_needs hS)
  have HCL := Lib.hid hcl
  have HM := Lib.hid (costR_le hcz)
  have HZ : Hid (∀ k, k < ns.length → cs.getD k 0 = ((costR cs k : Nat) : Int)) := fun k hk => by
    have h1 := hcz k (by omega)
    unfold costR
    omega
  obtain ⟨L, hLd⟩ : ∃ L, ordG (grO ns) = L := ⟨_, rfl⟩
  have HLT : Hid (∀ k ∈ L, k < ns.length) := fun k hk => by
    have := (ordG_listed (grO ns)).lt k (by rw [hLd]; exact hk)
    rwa [grO_len] at this
  have HLL : Hid (L.length = ns.length) := by unfold Hid; rw [← hLd]; exact hf
  have HOK : Hid (∀ f j, WyOk (grO ns) 1125899906842624 (L.length - f) (fromTo (grO ns) (costR cs) (L.drop f).reverse j)) := fun f j => by
    have := from_ok (G := grO ns) (C := costR cs) (M := 1125899906842624) (fun k _ => HM.out k) (L.drop f).reverse (fun k hk => by
      rw [HL.out]; exact HLT.out k (List.mem_of_mem_drop (List.mem_reverse.1 hk))) j
    rwa [List.length_reverse, List.length_drop] at this
  have HLD := Lib.hid hLd
  clear h hc hi9 hi85 hS hf hcl hcz hLd
  go_enter Tryz.func58, Tryz.ntmps58
  go_wp2_with (refine wpList_make_full w rfl _ _ 82 rfl w.heap.size 85 i85 (.agg #[.int .i64 0, .slice none 0 0]) 2 Tryz.underlying82 HI85.out.1 HI85.out.2.1 HI85.out.2.2.1 .i64 .i64 _ _ ns.length rfl rfl rfl rfl (by rw [HI85.out.2.2.2]; omega) (by unfold maxLen; omega) (Nat.le_refl _) ?_)
  intro w1 hown hgrow
  have HB1 : Hid (Below w.heap.size w w1) := (Below.refl _ _).grown hgrow (Nat.le_refl _) (fun k hk => by cases hk)
  have HW1 : Hid (WyAt w1 w.heap.size ns.length fun _ => (0, [])) := WyAt.zero hown
  have O1 := OA w1 HB1.out
  obtain ⟨bo, hbo⟩ : ∃ bo, w.heap.size = bo := ⟨_, rfl⟩
  have HBO := Lib.hid hbo
  rw [hbo] at HW1
  clear hown hgrow OA
  rw [hbo]
  clear hbo
  go_wp2_with fail
  refine O1.out.mono ?_
  rintro e w3 ⟨v, rfl, hnd, hb⟩
  rw [HLD.out] at hnd
  obtain ⟨lao, lcap, rfl⟩ := hnd.sl.form
  rw [nodes_len] at hnd ⊢
  have HND := Lib.hid hnd
  have HB3 := Lib.hid (HB1.out.trans (hb.mono HB1.out.size))
  have HW3 := Lib.hid (HW1.out.below hb)
  have hbl : w.heap.size ≤ w3.heap.size := HB3.out.size
  clear hnd hb O1 HW1 HB1
  have hll : L.length ≤ 1024 := by rw [HLL.out]; exact hl
  have hwr : IntKind.i64.wrap ((L.length : Int) - 1) = (L.length : Int) - 1 := IntWalk.i64_in _ (by omega)
  go_wp2_with fail
  clear hwr
  go_loopg [7, 8, 9, 10, 11] L.length (RFrRel w3 (grO ns) (costR cs) L bo ns.length)
  case atStart => exact ⟨_, _, rfl, rfl, rfl, Nat.le_refl _, by rw [List.drop_length]; exact HW3.out, Kp.refl _ _ _⟩
  case round =>
    obtain ⟨f, z, rfl, hgf, hz, hfl, hwy, hkp⟩ := hrel
    subst hgf
    have HWY := Lib.hid hwy
    have HKP := Lib.hid hkp
    have hbr : Below w.heap.size w wr := HB3.out.trans (hkp.below hbl fun k hk e => by have := HBO.out; omega)
    have HBR := Lib.hid hbr
    clear hwy hkp hbr
    by_cases hf0 : f = 0
    · subst hf0
      have hz2 : z = -1 := by omega
      subst hz2
      have HFIN : Hid (WyAt wr bo ns.length (fromTo (grO ns) (costR cs) (ordG (grO ns)).reverse)) := by unfold Hid; rw [HLD.out]; exact HWY.out
      clear HWY hz
      as_aux_lemma =>
      go_wp2_with fail
      go_ret
      exact ⟨bo, rfl, HFIN.out, HBR.out⟩
    · obtain ⟨i, rfl⟩ : ∃ i, f = i + 1 := ⟨f - 1, by omega⟩
      have hz2 : z = ((i : Nat) : Int) := by omega
      subst hz2
      clear hz hf0
      have hil : i < L.length := by omega
      have hii : ((i : Nat) : Int) < (L.length : Int) := by omega
      have hi0 : (0 : Int) ≤ ((i : Nat) : Int) := by omega
      have hLi : L[i]? = some (L.getD i 0) := by rw [List.getD, List.getElem?_eq_getElem hil]; rfl
      have HFD := Lib.hid (from_drop (grO ns) (costR cs) hLi)
      have hk := HLT.out (L.getD i 0) (List.mem_of_getElem? hLi)
      obtain ⟨lb, loff, rfl, hlb, hlc, _, _⟩ := HND.out.at2 (show i < (nodesL ns L).length by rw [nodes_len]; exact hil)
      rw [nodes_at ns hil] at hlc
      have hlbo : lb ≠ bo := fun e => way_not_str HW3.out (by rw [e] at hlc; exact hlc)
      have HLC : Hid (∀ W, Below wr.heap.size wr W → W.cell? ⟨lb, loff + i * 2, none⟩ = some (.string (ns.getD (L.getD i 0) default).id)) := fun W hW => by
        rw [hW.cell (p := ⟨lb, loff + i * 2, none⟩) (Nat.lt_of_lt_of_le hlb HKP.out.size), kp_cell HKP.out hlb hlbo]
        exact hlc
      obtain ⟨cb, coff, rfl, hcb, hcc⟩ := zs_atc (HC.out.below HBR.out) (show L.getD i 0 < cs.length by rw [HCL.out]; exact hk)
      rw [HZ.out _ hk] at hcc
      have HCC : Hid (∀ W, Below wr.heap.size wr W → W.cell? ⟨cb, coff + L.getD i 0, none⟩ = some (.int .i64 ((costR cs (L.getD i 0) : Nat) : Int))) := fun W hW => by
        rw [hW.cell (p := ⟨cb, coff + L.getD i 0, none⟩) hcb]
        exact hcc
      have hxid := grO_id ns hk
      have hck := HM.out (L.getD i 0)
      have HOK1 := Lib.hid (HOK.out (i + 1))
      generalize fromTo (grO ns) (costR cs) (L.drop (i + 1)).reverse = O at *
      have F1 := FA wr HBR.out (ns.getD (L.getD i 0) default).id
      rw [← hxid, find_pos (idA_mem (by rw [HL.out]; exact hk)), posG_id HSO.out.nodup (by rw [HL.out]; exact hk)] at F1
      have HXI := Lib.hid hxid
      clear hlc hLi hxid hcc
      generalize (ns.getD (L.getD i 0) default).id = x at *
      generalize L.getD i 0 = k at *
      have hki : ((k : Nat) : Int) < (cs.length : Int) := by rw [HCL.out]; omega
      have hkn : ((k : Nat) : Int) < (ns.length : Int) := by omega
      have hk0 : (0 : Int) ≤ ((k : Nat) : Int) := by omega
      have HOK2 : Hid (∀ j, WyOk (grO ns) 1125899906842624 (L.length - (i + 1) + 1) (foldK (grO ns) (costR cs) O k j)) := fun j => foldK_ok HOK1.out hck (by rw [HL.out]; exact hk) j
      have hlc0 := HLC.out wr (Below.refl _ _)
      go_wp2_with fail
      refine F1.out.mono ?_
      rintro e w4 ⟨rfl, rfl⟩
      clear F1 hlc0
      go_upto_region 7 with fail
      have hbow := HWY.out.lt
      go_cut [9] from 20 to 88 (fun s9 wx => ∃ bb, s9 = .pointer (some ⟨bb, 0, none⟩) ∧ Bst w4 bo bb wx (foldK (grO ns) (costR cs) O k 0))
      case first =>
        clear HLD HFD HOK HOK1 HOK2 HND HLT HM FA
        refine wp_region_held_drew (S := fun w' : World => w'.cell? ⟨cb, coff + k, none⟩ = some (.int .i64 ((costR cs k : Nat) : Int)) ∧ w'.cell? ⟨lb, loff + i * 2, none⟩ = some (.string x)) (by kernel_rfl) ⟨HCC.out _ (Below.refl _ _).drew, HLC.out _ (Below.refl _ _).drew⟩ (fun hHeld => ?_)
        refine wpAnyH_take (i := 0) (oi := { dst := some 31, op := Go.Op.move (Go.Operand.tmp 1), type := 40, pos := "ref.go:269", after := #[], guard := none }) (v := ?_) rfl (by kernel_rfl) (by kernel_rfl) (by kernel_rfl) (fun _ _ _ h => h) (Or.inl ⟨by rfl, ?_⟩) (by assumption) ?_
        rotate_left
        · (intro w hSw; (try dsimp only at hSw); go_simp; try with_reducible rfl)
        try simp only [Act.put, List.setIfInBounds_toArray, List.set_cons_zero, List.set_cons_succ]
        refine wpAnyH_take (i := 1) (oi := { dst := some 32, op := Go.Op.move (Go.Operand.tmp 8), type := 3, pos := "ref.go:269", after := #[], guard := none }) (v := ?_) rfl (by kernel_rfl) (by kernel_rfl) (by kernel_rfl) (fun _ _ _ h => h) (Or.inl ⟨by rfl, ?_⟩) (by assumption) ?_
        rotate_left
        · (intro w hSw; (try dsimp only at hSw); go_simp; try with_reducible rfl)
        try simp only [Act.put, List.setIfInBounds_toArray, List.set_cons_zero, List.set_cons_succ]
        refine wpAnyH_take (i := 2) (oi := { dst := some 33, op := Go.Op.indexAddr 40 (Go.Operand.tmp 31) (Go.Operand.tmp 32), type := 0, pos := "ref.go:269", after := #[{ on := 0, ground := Go.Ground.data }, { on := 1, ground := Go.Ground.data }], guard := none }) (v := ?_) rfl (by kernel_rfl) (by kernel_rfl) (by kernel_rfl) (fun _ _ _ h => h) (Or.inl ⟨by rfl, ?_⟩) (by assumption) ?_
        rotate_left
        · (intro w hSw; (try dsimp only at hSw); go_simp; try with_reducible rfl)
        try simp only [Act.put, List.setIfInBounds_toArray, List.set_cons_zero, List.set_cons_succ]
        refine wpAnyH_take (i := 3) (oi := { dst := some 34, op := Go.Op.load 3 (Go.Operand.tmp 33), type := 3, pos := "ref.go:269", after := #[{ on := 2, ground := Go.Ground.data }], guard := none }) (v := ?_) rfl (by kernel_rfl) (by kernel_rfl) (by kernel_rfl) (fun _ _ _ h => h) (Or.inl ⟨by rfl, ?_⟩) (by assumption) ?_
        rotate_left
        · (intro w hSw; (try dsimp only at hSw); go_simp; try with_reducible rfl)
        try simp only [Act.put, List.setIfInBounds_toArray, List.set_cons_zero, List.set_cons_succ]
        refine wpAnyH_take (i := 4) (oi := { dst := some 35, op := Go.Op.move (Go.Operand.tmp 6), type := 22, pos := "ref.go:269", after := #[], guard := none }) (v := ?_) rfl (by kernel_rfl) (by kernel_rfl) (by kernel_rfl) (fun _ _ _ h => h) (Or.inl ⟨by rfl, ?_⟩) (by assumption) ?_
        rotate_left
        · (intro w hSw; (try dsimp only at hSw); go_simp; try with_reducible rfl)
        try simp only [Act.put, List.setIfInBounds_toArray, List.set_cons_zero, List.set_cons_succ]
        refine wpAnyH_take (i := 5) (oi := { dst := some 36, op := Go.Op.move (Go.Operand.tmp 7), type := 3, pos := "ref.go:269", after := #[], guard := none }) (v := ?_) rfl (by kernel_rfl) (by kernel_rfl) (by kernel_rfl) (fun _ _ _ h => h) (Or.inl ⟨by rfl, ?_⟩) (by assumption) ?_
        rotate_left
        · (intro w hSw; (try dsimp only at hSw); go_simp; try with_reducible rfl)
        try simp only [Act.put, List.setIfInBounds_toArray, List.set_cons_zero, List.set_cons_succ]
        refine wpAnyH_take (i := 6) (oi := { dst := some 37, op := Go.Op.indexAddr 22 (Go.Operand.tmp 35) (Go.Operand.tmp 36), type := 0, pos := "ref.go:269", after := #[{ on := 4, ground := Go.Ground.data }, { on := 5, ground := Go.Ground.data }], guard := none }) (v := ?_) rfl (by kernel_rfl) (by kernel_rfl) (by kernel_rfl) (fun _ _ _ h => h) (Or.inl ⟨by rfl, ?_⟩) (by assumption) ?_
        rotate_left
        · (intro w hSw; (try dsimp only at hSw); go_simp; try with_reducible rfl)
        try simp only [Act.put, List.setIfInBounds_toArray, List.set_cons_zero, List.set_cons_succ]
        refine wpAnyH_take (i := 7) (oi := { dst := some 38, op := Go.Op.fieldAddr 48 (Go.Operand.tmp 37) 0, type := 0, pos := "ref.go:269", after := #[{ on := 6, ground := Go.Ground.data }], guard := none }) (v := ?_) rfl (by kernel_rfl) (by kernel_rfl) (by kernel_rfl) (fun _ _ _ h => h) (Or.inl ⟨by rfl, ?_⟩) (by assumption) ?_
        rotate_left
        · (intro w hSw; (try dsimp only at hSw); go_simp; try with_reducible rfl)
        try simp only [Act.put, List.setIfInBounds_toArray, List.set_cons_zero, List.set_cons_succ]
        refine wpAnyH_take (i := 8) (oi := { dst := some 39, op := Go.Op.load 9 (Go.Operand.tmp 38), type := 9, pos := "ref.go:269", after := #[{ on := 7, ground := Go.Ground.data }], guard := none }) (v := ?_) rfl (by kernel_rfl) (by kernel_rfl) (by kernel_rfl) (fun _ _ _ h => h) (Or.inl ⟨by rfl, ?_⟩) (by assumption) ?_
        rotate_left
        · (intro w hSw; (try dsimp only at hSw); go_simp; try with_reducible rfl)
        try simp only [Act.put, List.setIfInBounds_toArray, List.set_cons_zero, List.set_cons_succ]
        refine wpAnyH_ready (rs := [9, 11]) (by kernel_rfl) (by simp) ?_
        refine AllReadyH.cons rfl (fun K hK => ?_) (AllReadyH.cons rfl (fun K hK => ?_) AllReadyH.nil)
        · go_simp
          have hba : Below w4.heap.size w4 (w4.drew.alloc (.cells #[.string x] 9 (0, 0))) := (Below.refl _ _).drew.alloc (Nat.le_refl _) _
          refine hK.out _ _ ⟨HCC.out _ hba, HLC.out _ hba⟩ (fun hHeld => ?_)
          clear hK K
          try simp only [Act.put, List.setIfInBounds_toArray, List.set_cons_zero, List.set_cons_succ]
          refine wpAnyH_take (i := 10) (oi := { dst := some 41, op := Go.Op.build 85 #[(0, Go.Operand.tmp 34), (1, Go.Operand.tmp 40)], type := 85, pos := "ref.go:269", after := #[{ on := 3, ground := Go.Ground.data }, { on := 9, ground := Go.Ground.data }], guard := none }) (v := ?_) rfl (by kernel_rfl) (by kernel_rfl) (by kernel_rfl) (fun _ _ _ h => h) (Or.inl ⟨by rfl, ?_⟩) (by assumption) ?_
          rotate_left
          · (intro w hSw; (try dsimp only at hSw); go_simp; try with_reducible rfl)
          try simp only [Act.put, List.setIfInBounds_toArray, List.set_cons_zero, List.set_cons_succ]
          refine wpAnyH_ready (rs := [11]) (by kernel_rfl) (by simp) ?_
          refine AllReadyH.cons rfl (fun K hK => ?_) AllReadyH.nil
          go_simp
          have HB8 : Hid (Below w4.heap.size w4 ((w4.drew.alloc (.cells #[.string x] 9 (0, 0))).alloc (.cells #[.int .i64 0, .slice none 0 0] 85 (0, 0)))) := hba.alloc (by simp) _
          clear hba
          refine hK.out _ _ ⟨HCC.out _ HB8.out, HLC.out _ HB8.out⟩ (fun hHeld => ?_)
          clear hK K
          try simp only [Act.put, List.setIfInBounds_toArray, List.set_cons_zero, List.set_cons_succ]
          have HBB : Hid (((w4.drew.alloc (.cells #[.string x] 9 (0, 0))).alloc (.cells #[.int .i64 0, .slice none 0 0] 85 (0, 0))).heap[w4.heap.size + 1]? = some (.cells #[.int .i64 0, .slice none 0 0] 85 (0, 0))) := hp_new (by simp)
          have HOW : Hid (((w4.drew.alloc (.cells #[.string x] 9 (0, 0))).alloc (.cells #[.int .i64 0, .slice none 0 0] 85 (0, 0))).ownsRow (bo + 1) 9 1 (.slice (some ⟨w4.heap.size, 0, none⟩) 1 1) 1 [Value.string x]) := World.ownsRow.alloc (World.ownsRow_lit w4.drew #[Value.string x] 1 hbow (by decide) rfl) _
          refine wpAnyH_ready (rs := [12]) (by kernel_rfl) (by simp) ?_
          refine AllReadyH.cons rfl (fun K hK => ?_) AllReadyH.nil
          rw [if_pos (by rfl)]
          refine wp_store_row 85 _ _ rfl (w4.heap.size + 1) rfl 85 _ HBB.out (.agg #[.int .i64 ((costR cs k : Nat) : Int), .slice (some ⟨w4.heap.size, 0, none⟩) 1 1]) rfl (by kernel_rfl) rfl rfl ?_
          intro w9 hw9
          have hb9 : Below w4.heap.size w4 w9 := HB8.out.trans (hw9.below (by simp))
          have HP : Hid (Bst w4 bo (w4.heap.size + 1) w9 (foldK (grO ns) (costR cs) O k 0)) := by
            unfold Hid
            rw [foldK_zero, HXI.out]
            exact Bst.put (ps := [x]) (by simp) HB8.out HOW.out rfl (by intro e; injection e with e; simp at e) hw9
          refine hK.out _ _ ⟨HCC.out _ hb9, HLC.out _ hb9⟩ (fun hHeld => ?_)
          clear hK K hw9 hb9 HBB HOW HB8
          try simp only [Act.put, List.setIfInBounds_toArray, List.set_cons_zero, List.set_cons_succ]
          refine wpAnyH_done (by kernel_rfl) ?_ _
          go_wp2_with fail
          go_meet
          exact ⟨_, rfl, HP.out⟩
        · go_simp
          have hba : Below w4.heap.size w4 (w4.drew.alloc (.cells #[.int .i64 0, .slice none 0 0] 85 (0, 0))) := (Below.refl _ _).drew.alloc (Nat.le_refl _) _
          refine hK.out _ _ ⟨HCC.out _ hba, HLC.out _ hba⟩ (fun hHeld => ?_)
          clear hK K
          try simp only [Act.put, List.setIfInBounds_toArray, List.set_cons_zero, List.set_cons_succ]
          refine wpAnyH_ready (rs := [9]) (by kernel_rfl) (by simp) ?_
          refine AllReadyH.cons rfl (fun K hK => ?_) AllReadyH.nil
          go_simp
          have HB8 : Hid (Below w4.heap.size w4 ((w4.drew.alloc (.cells #[.int .i64 0, .slice none 0 0] 85 (0, 0))).alloc (.cells #[.string x] 9 (0, 0)))) := hba.alloc (by simp) _
          clear hba
          refine hK.out _ _ ⟨HCC.out _ HB8.out, HLC.out _ HB8.out⟩ (fun hHeld => ?_)
          clear hK K
          try simp only [Act.put, List.setIfInBounds_toArray, List.set_cons_zero, List.set_cons_succ]
          refine wpAnyH_take (i := 10) (oi := { dst := some 41, op := Go.Op.build 85 #[(0, Go.Operand.tmp 34), (1, Go.Operand.tmp 40)], type := 85, pos := "ref.go:269", after := #[{ on := 3, ground := Go.Ground.data }, { on := 9, ground := Go.Ground.data }], guard := none }) (v := ?_) rfl (by kernel_rfl) (by kernel_rfl) (by kernel_rfl) (fun _ _ _ h => h) (Or.inl ⟨by rfl, ?_⟩) (by assumption) ?_
          rotate_left
          · (intro w hSw; (try dsimp only at hSw); go_simp; try with_reducible rfl)
          try simp only [Act.put, List.setIfInBounds_toArray, List.set_cons_zero, List.set_cons_succ]
          have HBB : Hid (((w4.drew.alloc (.cells #[.int .i64 0, .slice none 0 0] 85 (0, 0))).alloc (.cells #[.string x] 9 (0, 0))).heap[w4.heap.size]? = some (.cells #[.int .i64 0, .slice none 0 0] 85 (0, 0))) := (hp_old (by simp)).trans (hp_new rfl)
          have HOW : Hid (((w4.drew.alloc (.cells #[.int .i64 0, .slice none 0 0] 85 (0, 0))).alloc (.cells #[.string x] 9 (0, 0))).ownsRow (bo + 1) 9 1 (.slice (some ⟨w4.heap.size + 1, 0, none⟩) 1 1) 1 [Value.string x]) := by
            have hsz : (w4.drew.alloc (.cells #[.int .i64 0, .slice none 0 0] 85 (0, 0))).heap.size = w4.heap.size + 1 := by simp
            have h1 := World.ownsRow_lit (base := bo + 1) (e := 9) (size := 1) (w4.drew.alloc (.cells #[.int .i64 0, .slice none 0 0] 85 (0, 0))) #[Value.string x] 1 (by rw [hsz]; omega) (by decide) rfl
            rw [hsz] at h1
            exact h1
          refine wpAnyH_ready (rs := [12]) (by kernel_rfl) (by simp) ?_
          refine AllReadyH.cons rfl (fun K hK => ?_) AllReadyH.nil
          rw [if_pos (by rfl)]
          refine wp_store_row 85 _ _ rfl (w4.heap.size) rfl 85 _ HBB.out (.agg #[.int .i64 ((costR cs k : Nat) : Int), .slice (some ⟨w4.heap.size + 1, 0, none⟩) 1 1]) rfl (by kernel_rfl) rfl rfl ?_
          intro w9 hw9
          have hb9 : Below w4.heap.size w4 w9 := HB8.out.trans (hw9.below (by simp))
          have HP : Hid (Bst w4 bo (w4.heap.size) w9 (foldK (grO ns) (costR cs) O k 0)) := by
            unfold Hid
            rw [foldK_zero, HXI.out]
            exact Bst.put (ps := [x]) (by simp) HB8.out HOW.out rfl (by intro e; injection e with e; simp at e) hw9
          refine hK.out _ _ ⟨HCC.out _ hb9, HLC.out _ hb9⟩ (fun hHeld => ?_)
          clear hK K hw9 hb9 HBB HOW HB8
          try simp only [Act.put, List.setIfInBounds_toArray, List.set_cons_zero, List.set_cons_succ]
          refine wpAnyH_done (by kernel_rfl) ?_ _
          go_wp2_with fail
          go_meet
          exact ⟨_, rfl, HP.out⟩
      case rest =>
        obtain ⟨bb, rfl, hbst⟩ := hcut
        generalize wc = w5 at *
        have HBST0 := Lib.hid hbst
        clear hbst
        go_wp2_with fail
        go_loopg [10, 11] ns.length (RFrIn w4 (grO ns) (costR cs) O bo bb k ns.length)
        case atStart => exact ⟨0, rfl, Nat.zero_le _, rfl, HBST0.out⟩
        case round =>
          obtain ⟨j, rfl, hj, rfl, hbst⟩ := hrel
          have HBST := Lib.hid hbst
          have hlc6 := HLC.out wr hbst.2.1
          clear hbst HBST0
          by_cases hjl : j < ns.length
          · have hji : ((j : Nat) : Int) < (ns.length : Int) := by omega
            have hbw : Below w.heap.size w wr := HBR.out.trans (HBST.out.2.1.mono HBR.out.size)
            obtain ⟨nb, noff, rfl, hnb2, _, hnc, hsx⟩ := (H.out.below hbw).at2 hjl
            have HX : Hid (needA (grO ns) j = dts (ns.getD j default).needs) := grO_need ns hjl
            have hnl := HNN.out (ns.getD j default) (by rw [List.getD, List.getElem?_eq_getElem hjl]; exact List.getElem_mem hjl)
            have HA := fun nq => has_any _ (ns.getD j default).needs x (by omega) (wr.drewN nq) (hsx.below (below_drewN wr nq))
            obtain ⟨xao, xcap, hxe⟩ := hsx.form
            rw [hxe] at hnc HA
            have HFS0 := Lib.hid (foldK_succ (grO ns) (costR cs) O k j)
            rw [HX.out, HXI.out] at HFS0
            clear hxe hsx hbw
            generalize (ns.getD j default).needs = nl at *
            by_cases hin : x.data.toList ∈ dts nl
            · rw [decide_eq_true hin] at HA
              have HQ := fun nq => Lib.hid (Calls.quiet_of_same (HA nq))
              have HFS : Hid (foldK (grO ns) (costR cs) O k (j + 1) = betF (foldK (grO ns) (costR cs) O k j) (costR cs k + (O j).1, idA (grO ns) k :: (O j).2)) := by unfold Hid; rw [HFS0.out, if_pos hin, HXI.out]
              clear hin HA HFS0
              as_aux_lemma =>
              go_upto_region 11 with fail
              go_quiet ((go_at_call 32; with_reducible exact (HQ _).out))
              rename_i nq
              obtain ⟨w11, hw11⟩ : ∃ W, wr.drewN nq = W := ⟨_, rfl⟩
              have HBST11 : Hid (Bst w4 bo bb w11 (foldK (grO ns) (costR cs) O k j)) := by unfold Hid; rw [← hw11]; exact HBST.out.next (below_drewN wr nq)
              rw [hw11]
              clear hw11 HBST hlc6 hnc HQ
              have hlc11 := HLC.out w11 HBST11.out.2.1
              go_upto_region 13 with fail
              obtain ⟨w12, hw12⟩ : ∃ W, w11.alloc (.cells #[Value.string x] 9 (0, 0)) = W := ⟨_, rfl⟩
              have hb12 : Below w11.heap.size w11 w12 := by rw [← hw12]; exact (Below.refl _ _).alloc (Nat.le_refl _) _
              have hl11 := HBST11.out.lt
              have HOW12 : Hid (w12.drew.ownsRow (bo + 1) 9 1 (.slice (some ⟨w11.heap.size, 0, none⟩) 1 1) 1 [Value.string x]) := by
                unfold Hid
                rw [← hw12]
                exact World.ownsRow_lit w11 #[Value.string x] 1 (by have := HBST11.out.2.1.size; omega) (by decide) rfl
              have hl12 : w11.heap.size < w12.heap.size := by rw [← hw12]; simp
              rw [hw12]
              have hw5 := HBST11.out.2.1.size
              obtain ⟨hbl, hbw11, u, ps, hcell11, hou11, hdp, hnu⟩ := HBST11.out
              have hbw12 := hbw11.trans (hb12.mono hbw11.size)
              have hcell := (hb12.block bb hl11).trans hcell11
              have hou := ownsRow_below hou11 hb12
              have HBL := Lib.hid hbl
              have HB12 := Lib.hid hbw12
              have HBB12 : Hid (w12.drew.heap[bb]? = some (.cells #[.int .i64 (((foldK (grO ns) (costR cs) O k j).1 : Nat) : Int), u] 85 (0, 0))) := hcell
              have HOU12 := Lib.hid hou
              have HDP := Lib.hid hdp
              have HNU := Lib.hid hnu
              have HNE : Hid (w11.heap.size ≠ bb) := by unfold Hid; omega
              have HBLT : Hid (bb < w12.heap.size) := by unfold Hid; omega
              have HUA : Hid (u.ownBlock ≠ (Value.slice (some ⟨w11.heap.size, 0, none⟩) 1 1).ownBlock) := fun e => by
                exact absurd (World.ownsRow.lt hou11 w11.heap.size e).2 (Nat.lt_irrefl _)
              obtain ⟨ou, ops_, oc1, oc2, oown, odt⟩ := HWY.out.at_ hjl
              have HS13 : Hid (∀ W, Below w4.heap.size w4 W → W.cell? ⟨cb, coff + k, none⟩ = some (.int .i64 ((costR cs k : Nat) : Int)) ∧ W.cell? ⟨bo, j * 2, none⟩ = some (.int .i64 (((O j).1 : Nat) : Int)) ∧ W.cell? ⟨bo, j * 2 + 1, none⟩ = some ou) := fun W hW =>
                ⟨HCC.out W hW, (hW.cell (p := ⟨bo, j * 2, none⟩) hbow).trans oc1, (hW.cell (p := ⟨bo, j * 2 + 1, none⟩) hbow).trans oc2⟩
              have HST12 : Hid (StrsAt w12.drew ou ops_) := (StrsAt.of_row oown).below HB12.out.drew
              have HDO : Hid (dts ([x] ++ ops_) = idA (grO ns) k :: (O j).2) := by
                unfold Hid
                rw [HXI.out, ← odt]
                rfl
              have hok1 := HOK1.out j
              have hol : ops_.length ≤ 1024 := by rw [← dts_len, odt]; have := hok1.2.1; omega
              have hsum : IntKind.i64.wrap (((costR cs k : Nat) : Int) + (((O j).1 : Nat) : Int)) = ((costR cs k + (O j).1 : Nat) : Int) := by
                rw [Int.natCast_add]
                refine IntWalk.i64_in _ ?_
                have h1 := hok1.1
                have h2 : (L.length - (i + 1)) * 1125899906842624 ≤ 1024 * 1125899906842624 := Nat.mul_le_mul_right _ (by omega)
                omega
              clear hcell hou hdp hnu hbl hbw12 hbw11 hcell11 hou11 oown odt hok1 hb12 hw12 hlc11 HBST11 oc1 oc2
              refine wp_region_held_drew (S := fun w' : World => w'.cell? ⟨cb, coff + k, none⟩ = some (.int .i64 ((costR cs k : Nat) : Int)) ∧ w'.cell? ⟨bo, j * 2, none⟩ = some (.int .i64 (((O j).1 : Nat) : Int)) ∧ w'.cell? ⟨bo, j * 2 + 1, none⟩ = some ou) (by kernel_rfl) (HS13.out _ HB12.out.drew) (fun hHeld => ?_)
              refine wpAnyH_take (i := 1) (oi := { dst := some 66, op := Go.Op.move (Go.Operand.tmp 1), type := 40, pos := "ref.go:273", after := #[], guard := none }) (v := ?_) rfl (by kernel_rfl) (by kernel_rfl) (by kernel_rfl) (fun _ _ _ h => h) (Or.inl ⟨by rfl, ?_⟩) (by assumption) ?_
              rotate_left
              · (intro w hSw; (try dsimp only at hSw); go_simp; try with_reducible rfl)
              try simp only [Act.put, List.setIfInBounds_toArray, List.set_cons_zero, List.set_cons_succ]
              refine wpAnyH_take (i := 2) (oi := { dst := some 67, op := Go.Op.move (Go.Operand.tmp 8), type := 3, pos := "ref.go:273", after := #[], guard := none }) (v := ?_) rfl (by kernel_rfl) (by kernel_rfl) (by kernel_rfl) (fun _ _ _ h => h) (Or.inl ⟨by rfl, ?_⟩) (by assumption) ?_
              rotate_left
              · (intro w hSw; (try dsimp only at hSw); go_simp; try with_reducible rfl)
              try simp only [Act.put, List.setIfInBounds_toArray, List.set_cons_zero, List.set_cons_succ]
              refine wpAnyH_take (i := 3) (oi := { dst := some 68, op := Go.Op.indexAddr 40 (Go.Operand.tmp 66) (Go.Operand.tmp 67), type := 0, pos := "ref.go:273", after := #[{ on := 1, ground := Go.Ground.data }, { on := 2, ground := Go.Ground.data }], guard := none }) (v := ?_) rfl (by kernel_rfl) (by kernel_rfl) (by kernel_rfl) (fun _ _ _ h => h) (Or.inl ⟨by rfl, ?_⟩) (by assumption) ?_
              rotate_left
              · (intro w hSw; (try dsimp only at hSw); go_simp; try with_reducible rfl)
              try simp only [Act.put, List.setIfInBounds_toArray, List.set_cons_zero, List.set_cons_succ]
              refine wpAnyH_take (i := 4) (oi := { dst := some 69, op := Go.Op.load 3 (Go.Operand.tmp 68), type := 3, pos := "ref.go:273", after := #[{ on := 3, ground := Go.Ground.data }], guard := none }) (v := ?_) rfl (by kernel_rfl) (by kernel_rfl) (by kernel_rfl) (fun _ _ _ h => h) (Or.inl ⟨by rfl, ?_⟩) (by assumption) ?_
              rotate_left
              · (intro w hSw; (try dsimp only at hSw); go_simp; try with_reducible rfl)
              try simp only [Act.put, List.setIfInBounds_toArray, List.set_cons_zero, List.set_cons_succ]
              refine wpAnyH_take (i := 5) (oi := { dst := some 70, op := Go.Op.move (Go.Operand.tmp 5), type := 82, pos := "ref.go:273", after := #[], guard := none }) (v := ?_) rfl (by kernel_rfl) (by kernel_rfl) (by kernel_rfl) (fun _ _ _ h => h) (Or.inl ⟨by rfl, ?_⟩) (by assumption) ?_
              rotate_left
              · (intro w hSw; (try dsimp only at hSw); go_simp; try with_reducible rfl)
              try simp only [Act.put, List.setIfInBounds_toArray, List.set_cons_zero, List.set_cons_succ]
              refine wpAnyH_take (i := 6) (oi := { dst := some 71, op := Go.Op.move (Go.Operand.tmp 10), type := 3, pos := "ref.go:273", after := #[], guard := none }) (v := ?_) rfl (by kernel_rfl) (by kernel_rfl) (by kernel_rfl) (fun _ _ _ h => h) (Or.inl ⟨by rfl, ?_⟩) (by assumption) ?_
              rotate_left
              · (intro w hSw; (try dsimp only at hSw); go_simp; try with_reducible rfl)
              try simp only [Act.put, List.setIfInBounds_toArray, List.set_cons_zero, List.set_cons_succ]
              refine wpAnyH_take (i := 7) (oi := { dst := some 72, op := Go.Op.indexAddr 82 (Go.Operand.tmp 70) (Go.Operand.tmp 71), type := 0, pos := "ref.go:273", after := #[{ on := 5, ground := Go.Ground.data }, { on := 6, ground := Go.Ground.data }], guard := none }) (v := ?_) rfl (by kernel_rfl) (by kernel_rfl) (by kernel_rfl) (fun _ _ _ h => h) (Or.inl ⟨by rfl, ?_⟩) (by assumption) ?_
              rotate_left
              · (intro w hSw; (try dsimp only at hSw); go_simp; try with_reducible rfl)
              try simp only [Act.put, List.setIfInBounds_toArray, List.set_cons_zero, List.set_cons_succ]
              refine wpAnyH_take (i := 8) (oi := { dst := some 73, op := Go.Op.fieldAddr 85 (Go.Operand.tmp 72) 0, type := 0, pos := "ref.go:273", after := #[{ on := 7, ground := Go.Ground.data }], guard := none }) (v := ?_) rfl (by kernel_rfl) (by kernel_rfl) (by kernel_rfl) (fun _ _ _ h => h) (Or.inl ⟨by rfl, ?_⟩) (by assumption) ?_
              rotate_left
              · (intro w hSw; (try dsimp only at hSw); go_simp; try with_reducible rfl)
              try simp only [Act.put, List.setIfInBounds_toArray, List.set_cons_zero, List.set_cons_succ]
              refine wpAnyH_take (i := 9) (oi := { dst := some 74, op := Go.Op.load 3 (Go.Operand.tmp 73), type := 3, pos := "ref.go:273", after := #[{ on := 8, ground := Go.Ground.data }], guard := none }) (v := ?_) rfl (by kernel_rfl) (by kernel_rfl) (by kernel_rfl) (fun _ _ _ h => h) (Or.inl ⟨by rfl, ?_⟩) (by assumption) ?_
              rotate_left
              · (intro w hSw; (try dsimp only at hSw); go_simp; try with_reducible rfl)
              try simp only [Act.put, List.setIfInBounds_toArray, List.set_cons_zero, List.set_cons_succ]
              refine wpAnyH_take (i := 10) (oi := { dst := some 75, op := Go.Op.binOp Go.BinOp.add 3 (Go.Operand.tmp 69) (Go.Operand.tmp 74) 3, type := 3, pos := "ref.go:273", after := #[{ on := 4, ground := Go.Ground.data }, { on := 9, ground := Go.Ground.data }], guard := none }) (v := ?_) rfl (by kernel_rfl) (by kernel_rfl) (by kernel_rfl) (fun _ _ _ h => h) (Or.inl ⟨by rfl, ?_⟩) (by assumption) ?_
              rotate_left
              · (intro w hSw; (try dsimp only at hSw); go_simp; try with_reducible rfl)
              try simp only [Act.put, List.setIfInBounds_toArray, List.set_cons_zero, List.set_cons_succ]
              refine wpAnyH_take (i := 11) (oi := { dst := some 76, op := Go.Op.move (Go.Operand.tmp 11), type := 35, pos := "ref.go:273", after := #[], guard := none }) (v := ?_) rfl (by kernel_rfl) (by kernel_rfl) (by kernel_rfl) (fun _ _ _ h => h) (Or.inl ⟨by rfl, ?_⟩) (by assumption) ?_
              rotate_left
              · (intro w hSw; (try dsimp only at hSw); go_simp; try with_reducible rfl)
              try simp only [Act.put, List.setIfInBounds_toArray, List.set_cons_zero, List.set_cons_succ]
              refine wpAnyH_take (i := 12) (oi := { dst := some 77, op := Go.Op.move (Go.Operand.tmp 5), type := 82, pos := "ref.go:273", after := #[], guard := none }) (v := ?_) rfl (by kernel_rfl) (by kernel_rfl) (by kernel_rfl) (fun _ _ _ h => h) (Or.inl ⟨by rfl, ?_⟩) (by assumption) ?_
              rotate_left
              · (intro w hSw; (try dsimp only at hSw); go_simp; try with_reducible rfl)
              try simp only [Act.put, List.setIfInBounds_toArray, List.set_cons_zero, List.set_cons_succ]
              refine wpAnyH_take (i := 13) (oi := { dst := some 78, op := Go.Op.move (Go.Operand.tmp 10), type := 3, pos := "ref.go:273", after := #[], guard := none }) (v := ?_) rfl (by kernel_rfl) (by kernel_rfl) (by kernel_rfl) (fun _ _ _ h => h) (Or.inl ⟨by rfl, ?_⟩) (by assumption) ?_
              rotate_left
              · (intro w hSw; (try dsimp only at hSw); go_simp; try with_reducible rfl)
              try simp only [Act.put, List.setIfInBounds_toArray, List.set_cons_zero, List.set_cons_succ]
              refine wpAnyH_take (i := 14) (oi := { dst := some 79, op := Go.Op.indexAddr 82 (Go.Operand.tmp 77) (Go.Operand.tmp 78), type := 0, pos := "ref.go:273", after := #[{ on := 12, ground := Go.Ground.data }, { on := 13, ground := Go.Ground.data }], guard := none }) (v := ?_) rfl (by kernel_rfl) (by kernel_rfl) (by kernel_rfl) (fun _ _ _ h => h) (Or.inl ⟨by rfl, ?_⟩) (by assumption) ?_
              rotate_left
              · (intro w hSw; (try dsimp only at hSw); go_simp; try with_reducible rfl)
              try simp only [Act.put, List.setIfInBounds_toArray, List.set_cons_zero, List.set_cons_succ]
              refine wpAnyH_take (i := 15) (oi := { dst := some 80, op := Go.Op.fieldAddr 85 (Go.Operand.tmp 79) 1, type := 0, pos := "ref.go:273", after := #[{ on := 14, ground := Go.Ground.data }], guard := none }) (v := ?_) rfl (by kernel_rfl) (by kernel_rfl) (by kernel_rfl) (fun _ _ _ h => h) (Or.inl ⟨by rfl, ?_⟩) (by assumption) ?_
              rotate_left
              · (intro w hSw; (try dsimp only at hSw); go_simp; try with_reducible rfl)
              try simp only [Act.put, List.setIfInBounds_toArray, List.set_cons_zero, List.set_cons_succ]
              refine wpAnyH_take (i := 16) (oi := { dst := some 81, op := Go.Op.load 35 (Go.Operand.tmp 80), type := 35, pos := "ref.go:273", after := #[{ on := 15, ground := Go.Ground.data }], guard := none }) (v := ?_) rfl (by kernel_rfl) (by kernel_rfl) (by kernel_rfl) (fun _ _ _ h => h) (Or.inl ⟨by rfl, ?_⟩) (by assumption) ?_
              rotate_left
              · (intro w hSw; (try dsimp only at hSw); go_simp; try with_reducible rfl)
              try simp only [Act.put, List.setIfInBounds_toArray, List.set_cons_zero, List.set_cons_succ]
              refine wpAnyH_ready (rs := [0, 17]) (by kernel_rfl) (by simp) ?_
              refine AllReadyH.cons rfl (fun K hK => ?_) (AllReadyH.cons rfl (fun K hK => ?_) AllReadyH.nil)
              · obtain ⟨x0, x1, _, _⟩ := blk2 (w := w12.drew) HBB12.out
                go_simp
                refine hK.out _ _ hHeld (fun hHeld => ?_)
                clear hK K
                try simp only [Act.put, List.setIfInBounds_toArray, List.set_cons_zero, List.set_cons_succ]
                refine wpAnyH_ready (rs := [17]) (by kernel_rfl) (by simp) ?_
                refine AllReadyH.cons rfl (fun K hK => ?_) AllReadyH.nil
                rw [if_pos (by rfl)]
                refine wp_append_strs _ _ 35 rfl (bo + 1) i9 Tryz.underlying35 HI9.out (.slice (some ⟨w11.heap.size, 0, none⟩) 1 1) [x] rfl HOW12.out _ ops_ rfl HST12.out (by simp; omega) (by show bo + 1 ≤ w12.heap.size; omega) ?_
                intro v13 w13 hown hgrow hblk
                obtain ⟨ga, gc, rfl⟩ := ownsRow_form hown
                have HB13 : Hid (Below w4.heap.size w4 w13) := HB12.out.drew.grown hgrow HB12.out.size fun q hq => (by injection hq with hq; have hq2 : w11.heap.size = q := hq; omega)
                have HBB13 : Hid (w13.heap[bb]? = some (.cells #[.int .i64 (((foldK (grO ns) (costR cs) O k j).1 : Nat) : Int), u] 85 (0, 0))) := (hgrow.block bb HBLT.out (by intro e; injection e with e; exact HNE.out e.symm)).trans HBB12.out
                have HOU13 : Hid (w13.ownsRow (bo + 1) 9 1 u ps.length (ps.map Value.string)) := World.ownsRow.kept (World.ownsRow.drew HOU12.out) hgrow (.inr HUA.out)
                have HOV13 := Lib.hid hown
                have HNV13 : Hid ((Value.slice ga ([x] ++ ops_).length gc).ownBlock ≠ some bb) := fun e => by
                  rcases hblk with h1 | h1
                  · rw [h1] at e; injection e with e; exact HNE.out e
                  · rw [h1] at e; injection e with e; have := HBLT.out; exact absurd e (by show ¬ w12.heap.size = bb; omega)
                clear hown hgrow hblk
                refine hK.out _ _ (HS13.out _ HB13.out) (fun hHeld => ?_)
                clear hK K
                try simp only [Act.put, List.setIfInBounds_toArray, List.set_cons_zero, List.set_cons_succ]
                refine wpAnyH_take (i := 18) (oi := { dst := some 83, op := Go.Op.build 85 #[(0, Go.Operand.tmp 75), (1, Go.Operand.tmp 82)], type := 85, pos := "ref.go:273", after := #[{ on := 10, ground := Go.Ground.data }, { on := 17, ground := Go.Ground.data }], guard := none }) (v := ?_) rfl (by kernel_rfl) (by kernel_rfl) (by kernel_rfl) (fun _ _ _ h => h) (Or.inl ⟨by rfl, ?_⟩) (by assumption) ?_
                rotate_left
                · (intro w hSw; (try dsimp only at hSw); go_simp; try with_reducible rfl)
                try simp only [Act.put, List.setIfInBounds_toArray, List.set_cons_zero, List.set_cons_succ]
                have BT := Lib.hid (better_own HSO.out (bo := bo) (bb := bb) (M := 1125899906842624) (c := L.length - (i + 1) + 1) (by omega) (foldK (grO ns) (costR cs) O k j) (costR cs k + (O j).1, idA (grO ns) k :: (O j).2) u (.slice ga ([x] ++ ops_).length gc) ps ([x] ++ ops_) (HOK2.out j) ((HOK1.out j).cons hck (by rw [HL.out]; exact hk)) HDP.out HDO.out w13 HOU13.out HOV13.out HNU.out HNV13.out)
                refine wpAnyH_ready (rs := [19]) (by kernel_rfl) (by simp) ?_
                refine AllReadyH.cons rfl (fun K hK => ?_) AllReadyH.nil
                go_simp
                go_at_call 59
                refine BT.out.mono ?_
                rintro e w14 ⟨v14, p14, rfl, ho14, hn14, hd14, hb14⟩
                obtain ⟨va, vc, rfl⟩ := ownsRow_form ho14
                have HB14 := Lib.hid (HB13.out.trans (hb14.mono HB13.out.size))
                have HBB14 := Lib.hid ((hb14.block bb (Array.getElem?_eq_some_iff.1 HBB13.out).1).trans HBB13.out)
                have HO14 := Lib.hid ho14
                have HN14 := Lib.hid hn14
                have HD14 := Lib.hid hd14
                clear ho14 hn14 hd14 hb14
                refine hK.out _ _ (HS13.out _ HB14.out) (fun hHeld => ?_)
                clear hK K
                try simp only [Act.put, List.setIfInBounds_toArray, List.set_cons_zero, List.set_cons_succ]
                refine wpAnyH_ready (rs := [20]) (by kernel_rfl) (by simp) ?_
                refine AllReadyH.cons rfl (fun K hK => ?_) AllReadyH.nil
                rw [if_pos (by rfl)]
                refine wp_store_row 85 _ _ rfl bb rfl 85 _ HBB14.out (.agg #[.int .i64 (((betF (foldK (grO ns) (costR cs) O k j) (costR cs k + (O j).1, idA (grO ns) k :: (O j).2)).1 : Nat) : Int), .slice va p14.length vc]) rfl (by kernel_rfl) rfl rfl ?_
                intro w15 hw15
                have HP : Hid (Bst w4 bo bb w15 (foldK (grO ns) (costR cs) O k (j + 1))) := by
                  unfold Hid
                  rw [HFS.out]
                  exact Bst.put HBL.out HB14.out HO14.out HD14.out HN14.out hw15
                refine hK.out _ _ (HS13.out _ HP.out.2.1) (fun hHeld => ?_)
                clear hK K hw15
                try simp only [Act.put, List.setIfInBounds_toArray, List.set_cons_zero, List.set_cons_succ]
                refine wpAnyH_done (by kernel_rfl) ?_ _
                go_wp2_with fail
                go_roundg (ns.length - (j + 1))
                case measure => omega
                case rel => exact ⟨j + 1, by go_num, by omega, rfl, HP.out⟩
              · rw [if_pos (by rfl)]
                refine wp_append_strs _ _ 35 rfl (bo + 1) i9 Tryz.underlying35 HI9.out (.slice (some ⟨w11.heap.size, 0, none⟩) 1 1) [x] rfl HOW12.out _ ops_ rfl HST12.out (by simp; omega) (by show bo + 1 ≤ w12.heap.size; omega) ?_
                intro v13 w13 hown hgrow hblk
                obtain ⟨ga, gc, rfl⟩ := ownsRow_form hown
                have HB13 : Hid (Below w4.heap.size w4 w13) := HB12.out.drew.grown hgrow HB12.out.size fun q hq => (by injection hq with hq; have hq2 : w11.heap.size = q := hq; omega)
                have HBB13 : Hid (w13.heap[bb]? = some (.cells #[.int .i64 (((foldK (grO ns) (costR cs) O k j).1 : Nat) : Int), u] 85 (0, 0))) := (hgrow.block bb HBLT.out (by intro e; injection e with e; exact HNE.out e.symm)).trans HBB12.out
                have HOU13 : Hid (w13.ownsRow (bo + 1) 9 1 u ps.length (ps.map Value.string)) := World.ownsRow.kept (World.ownsRow.drew HOU12.out) hgrow (.inr HUA.out)
                have HOV13 := Lib.hid hown
                have HNV13 : Hid ((Value.slice ga ([x] ++ ops_).length gc).ownBlock ≠ some bb) := fun e => by
                  rcases hblk with h1 | h1
                  · rw [h1] at e; injection e with e; exact HNE.out e
                  · rw [h1] at e; injection e with e; have := HBLT.out; exact absurd e (by show ¬ w12.heap.size = bb; omega)
                clear hown hgrow hblk
                refine hK.out _ _ (HS13.out _ HB13.out) (fun hHeld => ?_)
                clear hK K
                try simp only [Act.put, List.setIfInBounds_toArray, List.set_cons_zero, List.set_cons_succ]
                refine wpAnyH_take (i := 18) (oi := { dst := some 83, op := Go.Op.build 85 #[(0, Go.Operand.tmp 75), (1, Go.Operand.tmp 82)], type := 85, pos := "ref.go:273", after := #[{ on := 10, ground := Go.Ground.data }, { on := 17, ground := Go.Ground.data }], guard := none }) (v := ?_) rfl (by kernel_rfl) (by kernel_rfl) (by kernel_rfl) (fun _ _ _ h => h) (Or.inl ⟨by rfl, ?_⟩) (by assumption) ?_
                rotate_left
                · (intro w hSw; (try dsimp only at hSw); go_simp; try with_reducible rfl)
                try simp only [Act.put, List.setIfInBounds_toArray, List.set_cons_zero, List.set_cons_succ]
                refine wpAnyH_ready (rs := [0]) (by kernel_rfl) (by simp) ?_
                refine AllReadyH.cons rfl (fun K hK => ?_) AllReadyH.nil
                obtain ⟨x0, x1, _, _⟩ := blk2 (w := w13) HBB13.out
                go_simp
                refine hK.out _ _ hHeld (fun hHeld => ?_)
                clear hK K
                try simp only [Act.put, List.setIfInBounds_toArray, List.set_cons_zero, List.set_cons_succ]
                have BT := Lib.hid (better_own HSO.out (bo := bo) (bb := bb) (M := 1125899906842624) (c := L.length - (i + 1) + 1) (by omega) (foldK (grO ns) (costR cs) O k j) (costR cs k + (O j).1, idA (grO ns) k :: (O j).2) u (.slice ga ([x] ++ ops_).length gc) ps ([x] ++ ops_) (HOK2.out j) ((HOK1.out j).cons hck (by rw [HL.out]; exact hk)) HDP.out HDO.out w13 HOU13.out HOV13.out HNU.out HNV13.out)
                refine wpAnyH_ready (rs := [19]) (by kernel_rfl) (by simp) ?_
                refine AllReadyH.cons rfl (fun K hK => ?_) AllReadyH.nil
                go_simp
                go_at_call 59
                refine BT.out.mono ?_
                rintro e w14 ⟨v14, p14, rfl, ho14, hn14, hd14, hb14⟩
                obtain ⟨va, vc, rfl⟩ := ownsRow_form ho14
                have HB14 := Lib.hid (HB13.out.trans (hb14.mono HB13.out.size))
                have HBB14 := Lib.hid ((hb14.block bb (Array.getElem?_eq_some_iff.1 HBB13.out).1).trans HBB13.out)
                have HO14 := Lib.hid ho14
                have HN14 := Lib.hid hn14
                have HD14 := Lib.hid hd14
                clear ho14 hn14 hd14 hb14
                refine hK.out _ _ (HS13.out _ HB14.out) (fun hHeld => ?_)
                clear hK K
                try simp only [Act.put, List.setIfInBounds_toArray, List.set_cons_zero, List.set_cons_succ]
                refine wpAnyH_ready (rs := [20]) (by kernel_rfl) (by simp) ?_
                refine AllReadyH.cons rfl (fun K hK => ?_) AllReadyH.nil
                rw [if_pos (by rfl)]
                refine wp_store_row 85 _ _ rfl bb rfl 85 _ HBB14.out (.agg #[.int .i64 (((betF (foldK (grO ns) (costR cs) O k j) (costR cs k + (O j).1, idA (grO ns) k :: (O j).2)).1 : Nat) : Int), .slice va p14.length vc]) rfl (by kernel_rfl) rfl rfl ?_
                intro w15 hw15
                have HP : Hid (Bst w4 bo bb w15 (foldK (grO ns) (costR cs) O k (j + 1))) := by
                  unfold Hid
                  rw [HFS.out]
                  exact Bst.put HBL.out HB14.out HO14.out HD14.out HN14.out hw15
                refine hK.out _ _ (HS13.out _ HP.out.2.1) (fun hHeld => ?_)
                clear hK K hw15
                try simp only [Act.put, List.setIfInBounds_toArray, List.set_cons_zero, List.set_cons_succ]
                refine wpAnyH_done (by kernel_rfl) ?_ _
                go_wp2_with fail
                go_roundg (ns.length - (j + 1))
                case measure => omega
                case rel => exact ⟨j + 1, by go_num, by omega, rfl, HP.out⟩
            · rw [decide_eq_false hin] at HA
              have HQ := fun nq => Lib.hid (Calls.quiet_of_same (HA nq))
              have HFS : Hid (foldK (grO ns) (costR cs) O k (j + 1) = foldK (grO ns) (costR cs) O k j) := by unfold Hid; rw [HFS0.out, if_neg hin]
              clear hin HA HFS0
              as_aux_lemma =>
              go_upto_region 11 with fail
              go_quiet ((go_at_call 32; with_reducible exact (HQ _).out))
              rename_i nq
              have HP : Hid (Bst w4 bo bb (wr.drewN nq) (foldK (grO ns) (costR cs) O k (j + 1))) := by unfold Hid; rw [HFS.out]; exact HBST.out.next (below_drewN wr nq)
              go_wp2_with fail
              go_roundg (ns.length - (j + 1))
              case measure => omega
              case rel => exact ⟨j + 1, by go_num, by omega, rfl, HP.out⟩
          · have he : j = ns.length := by omega
            subst he
            obtain ⟨hbl, hbw, u, ps, hcell, hou, hdp, hnu⟩ := HBST.out
            have HWYR := Lib.hid (HWY.out.below hbw)
            obtain ⟨cur, hg, hs, hmx, hcs⟩ := HWYR.out.blk
            obtain ⟨ua, uc, rfl⟩ := ownsRow_form hou
            have HG := Lib.hid hg
            have HSZ := Lib.hid hs
            have HCS := Lib.hid hcs
            obtain ⟨x0, x1, _, _⟩ := blk2 hcell
            have HOU := Lib.hid hou
            have HDP := Lib.hid hdp
            have HBW := Lib.hid hbw
            clear hcell hou hdp hnu hbw hg hs hcs hbl HBST HWYR hlc6
            as_aux_lemma =>
            go_upto_region 14 with fail
            go_wp2_with (refine wpList_store_part rfl 85 _ _ rfl bo (k * 2) rfl 85 cur HG.out (.agg #[.int .i64 (((foldK (grO ns) (costR cs) O k ns.length).1 : Nat) : Int), .slice ua ps.length uc]) rfl (by kernel_rfl) (by rw [HSZ.out]; show k * 2 + 2 ≤ _; omega) rfl ?_)
            intro w7 hw7
            have HW7 : Hid (WyAt w7 bo ns.length (setW O k (foldK (grO ns) (costR cs) O k ns.length))) := WyAt.set HSZ.out hmx HCS.out hk HOU.out HDP.out (by rw [List.append_assoc]; exact hw7)
            have HK7 : Hid (Kp w3.heap.size (· = bo) w3 w7) := (HKP.out.trans (Kp.of_below (HBW.out.mono HKP.out.size))).wrote hw7 (.inr rfl)
            have hwr2 : IntKind.i64.wrap (((i : Nat) : Int) - 1) = ((i : Nat) : Int) - 1 := IntWalk.i64_in _ (by omega)
            clear hw7
            go_wp2_with fail
            go_roundg i
            case measure => omega
            case rel =>
              refine ⟨_, _, rfl, rfl, rfl, by omega, ?_, HK7.out⟩
              rw [HFD.out, ← foldK_full, HL.out]
              exact HW7.out
end Go.Proofs.YtfegmmafcopbpaaGreatDoor
