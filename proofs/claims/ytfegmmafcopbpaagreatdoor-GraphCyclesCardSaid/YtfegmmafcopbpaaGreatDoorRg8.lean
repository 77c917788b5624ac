/- The walk over the reference's start. -/
import Derived.Test.YtfegmmafcopbpaaGreatDoorRg5
import Derived.Deep.RegionHeld
namespace Go.Proofs.YtfegmmafcopbpaaGreatDoor
open Go.RowKit

theorem bestF_app (id : Nat → Bs) : ∀ (l r : List Nat) (b : Option Nat), bestF id b (l ++ r) = bestF id (bestF id b l) r
  | [], r, b => by rw [List.nil_append, bestF]
  | i :: l, r, none => by rw [List.cons_append, bestF, bestF]; exact bestF_app id l r _
  | i :: l, r, some j => by
    rw [List.cons_append, bestF, bestF]
    split
    · exact bestF_app id l r _
    · exact bestF_app id l r _
theorem firstF_snoc (id : Nat → Bs) (l : List Nat) (k : Nat) : firstF id (l ++ [k]) = match firstF id l with
    | none => some k
    | some j => if natC (id k) (id j) < 0 then some k else some j := by
  unfold firstF
  rw [bestF_app]
  cases bestF id none l with
  | none => rw [bestF, bestF]
  | some j =>
    rw [bestF]
    simp only
    split <;> rw [bestF]
theorem parts_nil : partsF [] ≠ 0 := by decide
theorem id_ne {G : Gr} (hs : Sound G) {k : Nat} (hk : k < G.length) : idA G k ≠ [] := by
  intro e
  obtain ⟨y, hy, h1⟩ := List.mem_map.1 (idA_mem hk)
  have := hs.parts y hy
  rw [h1, e] at this
  exact parts_nil this
/-- the name of the first of some nodes, or nothing -/
def fnameF (G : Gr) (l : List Nat) : Bs := match firstF (idA G) l with
  | none => []
  | some m => idA G m
theorem nameF_snoc {G : Gr} (hs : Sound G) {l : List Nat} (hl : ∀ k ∈ l, k < G.length) {k : Nat} : fnameF G (l ++ [k]) = if fnameF G l = [] ∨ natC (idA G k) (fnameF G l) < 0 then idA G k else fnameF G l := by
  unfold fnameF
  rw [firstF_snoc]
  cases h : firstF (idA G) l with
  | none => simp
  | some j =>
    have hj := hl j (firstF_mem h).1
    have hne := id_ne hs hj
    simp only [hne, false_or]
    by_cases hc : natC (idA G k) (idA G j) < 0
    · rw [if_pos hc, if_pos hc]
    · rw [if_neg hc, if_neg hc]
def cyB (G : Gr) (j : Nat) : Bool := decide (idA G j ∈ aboveT G (idA G j))
theorem cyB_eq {G : Gr} (hs : Sound G) {j : Nat} (hj : j < G.length) : cyB G j = decide (0 < distF (be G) G.length j j) := by
  unfold cyB aboveT
  rw [if_pos (idA_mem hj), decide_eq_decide, mem_aboveR hs, cyc_walk hs, posG_id hs.nodup hj]
  exact ⟨fun h => h.2, fun h => ⟨idA_mem hj, h⟩⟩
def stL (G : Gr) (k : Nat) : List Nat := (List.range k).filter (cyB G)
theorem stL_succ (G : Gr) (k : Nat) : stL G (k + 1) = if cyB G k = true then stL G k ++ [k] else stL G k := by
  unfold stL
  rw [List.range_succ, List.filter_append, List.filter_cons]
  split <;> simp
theorem stL_full {G : Gr} (hs : Sound G) : stL G G.length = cycL G := by
  unfold stL cycL
  exact List.filter_congr fun i hi => cyB_eq hs (List.mem_range.1 hi)
theorem stL_lt {G : Gr} {k : Nat} (hk : k ≤ G.length) : ∀ j ∈ stL G k, j < G.length := fun j hj => by
  have := List.mem_range.1 (List.mem_filter.1 hj).1
  omega
theorem empty_is (s : ByteArray) : s.toList.isEmpty = decide (s.data.toList = []) := by
  rw [Lib.toList_data]
  cases h : s.data.toList with
  | nil => simp
  | cons a l => simp
theorem empty_test (s : ByteArray) : (s.toList == ByteArray.toList ⟨#[]⟩) = decide (s.data.toList = []) := tl_eqR s ⟨#[]⟩

def StaRel (w1 : World) (G : Gr) (f : Nat) (t3 t4 : Value) (wr : World) : Prop :=
  ∃ (k : Nat) (s : ByteArray), t4 = .int .i64 (k : Nat) ∧ k ≤ G.length ∧ f = G.length - k ∧ t3 = .string s ∧ s.data.toList = fnameF G (stL G k) ∧ s.size ≤ 9223372036854775807 ∧ Below w1.heap.size w1 wr

set_option maxRecDepth 100000 in
set_option maxHeartbeats 3200000 in
theorem rstart_any (nv : Value) (ns : List Nd) (hS : Sound (grO ns)) (w : World) (h : NdAt w nv ns) :
    Calls Tryz.prog 44 #[nv] w fun e w' => ∃ s : ByteArray, e = .returned (.string s) ∧ s.data.toList = fnameF (grO ns) (cycL (grO ns)) ∧ Below w.heap.size w w' := by
  have hl : ns.length ≤ 1024 := by have := hS.len; rwa [grO_len] at this
  have AB := fun W (hW : Below w.heap.size w W) s => Lib.hid (rabove_any nv ns hS s W (h.below hW))
  have HSZ := Lib.hid (grO_sizes hS)
  obtain ⟨ao, cap, rfl⟩ := h.sl.form
  have H := Lib.hid h
  have HSO := Lib.hid hS
  have HL := Lib.hid (grO_len ns)
  have HTL : Hid (∀ x, (aboveT (grO ns) x).length ≤ 1000000) := fun x => by
    have := nodup_le (idsG (grO ns)) _ (aboveT_nodup hS x) (aboveT_in hS x)
    rw [ids_len, grO_len] at this
    omega
  clear h hS
  go_enter Tryz.func44, Tryz.ntmps44
  go_wp2_with fail
  go_loopg [3, 4] ns.length (StaRel w (grO ns))
  case atStart => exact ⟨0, ⟨#[]⟩, rfl, Nat.zero_le _, by rw [HL.out]; rfl, rfl, rfl, by decide, Below.refl _ _⟩
  case round =>
    obtain ⟨k, s, rfl, hk, hff, rfl, hsn, hss, hbr⟩ := hrel
    rw [HL.out] at hk hff
    subst hff
    have HSN := Lib.hid hsn
    have HBR := Lib.hid hbr
    have hbs := hbr.size
    clear hsn hbr
    by_cases hlt : k < ns.length
    · have hii : ((k : Nat) : Int) < (ns.length : Int) := by omega
      have hk0 : (0 : Int) ≤ ((k : Nat) : Int) := by omega
      obtain ⟨nb, noff, rfl, hnb, hc0, _, _⟩ := (H.out.below HBR.out).at2 hlt
      have HSC : Hid (∀ W, Below w.heap.size w W → W.cell? ⟨nb, noff + k * 2, none⟩ = some (.string (ns.getD k default).id)) := fun W hW => ((H.out.below hW).lit hlt).2.1
      have hidk := grO_id ns hlt
      have HSU : Hid (fnameF (grO ns) (stL (grO ns) (k + 1)) = if cyB (grO ns) k = true then (if s.data.toList = [] ∨ natC (ns.getD k default).id.data.toList s.data.toList < 0 then (ns.getD k default).id.data.toList else s.data.toList) else s.data.toList) := by
        unfold Hid
        rw [stL_succ]
        split
        · rw [nameF_snoc HSO.out (stL_lt (by rw [HL.out]; omega)), ← HSN.out, hidk]
        · rw [HSN.out]
      have HCY : Hid (cyB (grO ns) k = decide ((ns.getD k default).id.data.toList ∈ aboveT (grO ns) (ns.getD k default).id.data.toList)) := by unfold Hid cyB; rw [hidk]
      have hxs := HSZ.out (ns.getD k default) (by rw [List.getD, List.getElem?_eq_getElem hlt]; exact List.getElem_mem hlt)
      clear hidk
      generalize (ns.getD k default).id = x at *
      have AB1 := AB wr.drew HBR.out.drew x
      have HAS : Hid (∀ v ts W, StrsAt W v ts → dts ts = aboveT (grO ns) x.data.toList → Calls Tryz.prog 32 #[v, .string x] W fun e w' => e = .returned (.bool (cyB (grO ns) k)) ∧ w' = W) := fun v ts W hs hd => by
        have h1 := has_any v ts x (by rw [← dts_len, hd]; exact Nat.le_trans (HTL.out _) (by decide)) W hs
        rw [hd, ← HCY.out] at h1
        exact h1
      have CMP := fun W => Lib.hid (rcompare_any x s hxs hss W)
      have het := empty_test s
      have hei := empty_is s
      obtain ⟨q, hq⟩ : ∃ q : Bool, (cyB (grO ns) k && (decide (s.data.toList = []) || decide (natC x.data.toList s.data.toList < 0))) = q := ⟨_, rfl⟩
      have HSU2 : Hid (fnameF (grO ns) (stL (grO ns) (k + 1)) = if q = true then x.data.toList else s.data.toList) := by
        unfold Hid
        rw [HSU.out, ← hq]
        by_cases c1 : cyB (grO ns) k = true
        · rw [if_pos c1]
          by_cases c2 : s.data.toList = [] ∨ natC x.data.toList s.data.toList < 0
          · rw [if_pos c2, if_pos]
            simpa [c1] using c2
          · rw [if_neg c2, if_neg]
            simpa [c1] using c2
        · rw [if_neg c1, if_neg]
          simp [c1]
      have HQ := Lib.hid hq
      generalize cyB (grO ns) k = cy at *
      generalize natC x.data.toList s.data.toList = z at *
      clear HCY HTL AB HSU hq
      go_upto_region 5 with fail
      go_cut [37] from 11 to 37 (fun s37 wx => s37 = .bool q ∧ Below w.heap.size w wx)
      case first =>
        cases cy with
        | false =>
          have hq := HQ.out
          simp only [Bool.false_and] at hq
          subst hq
          clear CMP het hei
          as_aux_lemma =>
          refine wp_region_held_drew (S := fun w' : World => w'.cell? ⟨nb, noff + k * 2, none⟩ = some (.string x)) (by kernel_rfl) (HSC.out _ HBR.out.drew) (fun hHeld => ?_)
          refine wpAnyH_take (i := 0) (oi := { dst := some 11, op := Op.move (Operand.tmp 0), type := 22, pos := "ref.go:195", after := #[], guard := none }) (v := ?_) rfl (by kernel_rfl) (by kernel_rfl) (by kernel_rfl) (fun _ _ _ h => h) (Or.inl ⟨by rfl, ?_⟩) (by assumption) ?_
          rotate_left
          · (intro w hSw; (try dsimp only at hSw); go_simp; try with_reducible rfl)
          simp only [Act.put, List.setIfInBounds_toArray, List.set_cons_zero, List.set_cons_succ]
          refine wpAnyH_take (i := 1) (oi := { dst := some 12, op := Op.move (Operand.tmp 0), type := 22, pos := "ref.go:195", after := #[], guard := none }) (v := ?_) rfl (by kernel_rfl) (by kernel_rfl) (by kernel_rfl) (fun _ _ _ h => h) (Or.inl ⟨by rfl, ?_⟩) (by assumption) ?_
          rotate_left
          · (intro w hSw; (try dsimp only at hSw); go_simp; try with_reducible rfl)
          simp only [Act.put, List.setIfInBounds_toArray, List.set_cons_zero, List.set_cons_succ]
          refine wpAnyH_take (i := 2) (oi := { dst := some 13, op := Op.move (Operand.tmp 4), type := 3, pos := "ref.go:195", after := #[], guard := none }) (v := ?_) rfl (by kernel_rfl) (by kernel_rfl) (by kernel_rfl) (fun _ _ _ h => h) (Or.inl ⟨by rfl, ?_⟩) (by assumption) ?_
          rotate_left
          · (intro w hSw; (try dsimp only at hSw); go_simp; try with_reducible rfl)
          simp only [Act.put, List.setIfInBounds_toArray, List.set_cons_zero, List.set_cons_succ]
          refine wpAnyH_take (i := 3) (oi := { dst := some 14, op := Op.indexAddr 22 (Operand.tmp 12) (Operand.tmp 13), type := 0, pos := "ref.go:195", after := #[{ on := 1, ground := Ground.data }, { on := 2, ground := Ground.data }], guard := none }) (v := ?_) rfl (by kernel_rfl) (by kernel_rfl) (by kernel_rfl) (fun _ _ _ h => h) (Or.inl ⟨by rfl, ?_⟩) (by assumption) ?_
          rotate_left
          · (intro w hSw; (try dsimp only at hSw); go_simp; try with_reducible rfl)
          simp only [Act.put, List.setIfInBounds_toArray, List.set_cons_zero, List.set_cons_succ]
          refine wpAnyH_take (i := 4) (oi := { dst := some 15, op := Op.fieldAddr 48 (Operand.tmp 14) 0, type := 0, pos := "ref.go:195", after := #[{ on := 3, ground := Ground.data }], guard := none }) (v := ?_) rfl (by kernel_rfl) (by kernel_rfl) (by kernel_rfl) (fun _ _ _ h => h) (Or.inl ⟨by rfl, ?_⟩) (by assumption) ?_
          rotate_left
          · (intro w hSw; (try dsimp only at hSw); go_simp; try with_reducible rfl)
          simp only [Act.put, List.setIfInBounds_toArray, List.set_cons_zero, List.set_cons_succ]
          refine wpAnyH_take (i := 5) (oi := { dst := some 16, op := Op.load 9 (Operand.tmp 15), type := 9, pos := "ref.go:195", after := #[{ on := 4, ground := Ground.data }], guard := none }) (v := ?_) rfl (by kernel_rfl) (by kernel_rfl) (by kernel_rfl) (fun _ _ _ h => h) (Or.inl ⟨by rfl, ?_⟩) (by assumption) ?_
          rotate_left
          · (intro w hSw; (try dsimp only at hSw); go_simp; try with_reducible rfl)
          simp only [Act.put, List.setIfInBounds_toArray, List.set_cons_zero, List.set_cons_succ]
          refine wpAnyH_take (i := 7) (oi := { dst := some 18, op := Op.move (Operand.tmp 0), type := 22, pos := "ref.go:195", after := #[], guard := none }) (v := ?_) rfl (by kernel_rfl) (by kernel_rfl) (by kernel_rfl) (fun _ _ _ h => h) (Or.inl ⟨by rfl, ?_⟩) (by assumption) ?_
          rotate_left
          · (intro w hSw; (try dsimp only at hSw); go_simp; try with_reducible rfl)
          simp only [Act.put, List.setIfInBounds_toArray, List.set_cons_zero, List.set_cons_succ]
          refine wpAnyH_take (i := 8) (oi := { dst := some 19, op := Op.move (Operand.tmp 4), type := 3, pos := "ref.go:195", after := #[], guard := none }) (v := ?_) rfl (by kernel_rfl) (by kernel_rfl) (by kernel_rfl) (fun _ _ _ h => h) (Or.inl ⟨by rfl, ?_⟩) (by assumption) ?_
          rotate_left
          · (intro w hSw; (try dsimp only at hSw); go_simp; try with_reducible rfl)
          simp only [Act.put, List.setIfInBounds_toArray, List.set_cons_zero, List.set_cons_succ]
          refine wpAnyH_take (i := 9) (oi := { dst := some 20, op := Op.indexAddr 22 (Operand.tmp 18) (Operand.tmp 19), type := 0, pos := "ref.go:195", after := #[{ on := 7, ground := Ground.data }, { on := 8, ground := Ground.data }], guard := none }) (v := ?_) rfl (by kernel_rfl) (by kernel_rfl) (by kernel_rfl) (fun _ _ _ h => h) (Or.inl ⟨by rfl, ?_⟩) (by assumption) ?_
          rotate_left
          · (intro w hSw; (try dsimp only at hSw); go_simp; try with_reducible rfl)
          simp only [Act.put, List.setIfInBounds_toArray, List.set_cons_zero, List.set_cons_succ]
          refine wpAnyH_take (i := 10) (oi := { dst := some 21, op := Op.fieldAddr 48 (Operand.tmp 20) 0, type := 0, pos := "ref.go:195", after := #[{ on := 9, ground := Ground.data }], guard := none }) (v := ?_) rfl (by kernel_rfl) (by kernel_rfl) (by kernel_rfl) (fun _ _ _ h => h) (Or.inl ⟨by rfl, ?_⟩) (by assumption) ?_
          rotate_left
          · (intro w hSw; (try dsimp only at hSw); go_simp; try with_reducible rfl)
          simp only [Act.put, List.setIfInBounds_toArray, List.set_cons_zero, List.set_cons_succ]
          refine wpAnyH_take (i := 11) (oi := { dst := some 22, op := Op.load 9 (Operand.tmp 21), type := 9, pos := "ref.go:195", after := #[{ on := 10, ground := Ground.data }], guard := none }) (v := ?_) rfl (by kernel_rfl) (by kernel_rfl) (by kernel_rfl) (fun _ _ _ h => h) (Or.inl ⟨by rfl, ?_⟩) (by assumption) ?_
          rotate_left
          · (intro w hSw; (try dsimp only at hSw); go_simp; try with_reducible rfl)
          simp only [Act.put, List.setIfInBounds_toArray, List.set_cons_zero, List.set_cons_succ]
          refine wpAnyH_ready (rs := [6]) (by kernel_rfl) (by simp) ?_
          refine AllReadyH.cons rfl (fun K hK => ?_) AllReadyH.nil
          go_simp
          go_at_call 49
          refine AB1.out.mono ?_
          rintro e w3 ⟨v, ts, rfl, hs, hd, hb⟩
          have hb3 := HBR.out.drew.trans (hb.mono hbs)
          have HAW := Lib.hid (HAS.out v ts w3 hs hd)
          have HB3 := Lib.hid hb3
          have hcs := HSC.out w3 hb3
          clear hs hd hb hb3
          refine hK.out _ _ ?_ (fun hHeld => ?_)
          · exact hcs
          clear hK K
          try simp only [Act.put, List.setIfInBounds_toArray, List.set_cons_zero, List.set_cons_succ]
          refine wpAnyH_ready (rs := [12]) (by kernel_rfl) (by simp) ?_
          refine AllReadyH.cons rfl (fun K hK => ?_) AllReadyH.nil
          go_simp
          go_at_call 32
          refine HAW.out.mono ?_
          rintro e w4 ⟨rfl, rfl⟩
          refine hK.out _ _ ?_ (fun hHeld => ?_)
          · exact hcs
          clear hK K
          try simp only [Act.put, List.setIfInBounds_toArray, List.set_cons_zero, List.set_cons_succ]
          refine wpAnyH_take (i := 13) (oi := { dst := some 24, op := Op.move (Operand.tmp 23), type := 4, pos := "ref.go:195", after := #[{ on := 12, ground := Ground.data }, { on := 12, ground := Ground.chain }], guard := none }) (v := ?_) rfl (by kernel_rfl) (by kernel_rfl) (by kernel_rfl) (fun _ _ _ h => h) (Or.inl ⟨by rfl, ?_⟩) (by assumption) ?_
          rotate_left
          · (intro w hSw; (try dsimp only at hSw); go_simp; try with_reducible rfl)
          simp only [Act.put, List.setIfInBounds_toArray, List.set_cons_zero, List.set_cons_succ]
          refine wpAnyH_take (i := 14) (oi := { dst := some 25, op := Op.move (Operand.tmp 3), type := 9, pos := "ref.go:195", after := #[{ on := 13, ground := Ground.guard }], guard := some (13, true) }) (v := undef) rfl (by kernel_rfl) (by kernel_rfl) (by kernel_rfl) (fun _ _ _ h => h) (Or.inr ⟨by rfl, rfl⟩) (by assumption) ?_
          simp only [Act.put, List.setIfInBounds_toArray, List.set_cons_zero, List.set_cons_succ]
          refine wpAnyH_take (i := 15) (oi := { dst := some 26, op := Op.binOp BinOp.eql 9 (Operand.tmp 25) (Operand.const (Value.string { data := #[] })) 9, type := 4, pos := "ref.go:195", after := #[{ on := 14, ground := Ground.data }, { on := 13, ground := Ground.guard }], guard := some (13, true) }) (v := undef) rfl (by kernel_rfl) (by kernel_rfl) (by kernel_rfl) (fun _ _ _ h => h) (Or.inr ⟨by rfl, rfl⟩) (by assumption) ?_
          simp only [Act.put, List.setIfInBounds_toArray, List.set_cons_zero, List.set_cons_succ]
          refine wpAnyH_take (i := 16) (oi := { dst := some 27, op := Op.move (Operand.tmp 26), type := 4, pos := "ref.go:195", after := #[{ on := 15, ground := Ground.data }, { on := 13, ground := Ground.chain }, { on := 13, ground := Ground.guard }], guard := some (13, true) }) (v := undef) rfl (by kernel_rfl) (by kernel_rfl) (by kernel_rfl) (fun _ _ _ h => h) (Or.inr ⟨by rfl, rfl⟩) (by assumption) ?_
          simp only [Act.put, List.setIfInBounds_toArray, List.set_cons_zero, List.set_cons_succ]
          refine wpAnyH_take (i := 17) (oi := { dst := some 28, op := Op.move (Operand.tmp 0), type := 22, pos := "ref.go:195", after := #[{ on := 16, ground := Ground.guard }], guard := some (16, false) }) (v := undef) rfl (by kernel_rfl) (by kernel_rfl) (by kernel_rfl) (fun _ _ _ h => h) (Or.inr ⟨by rfl, rfl⟩) (by assumption) ?_
          simp only [Act.put, List.setIfInBounds_toArray, List.set_cons_zero, List.set_cons_succ]
          refine wpAnyH_take (i := 18) (oi := { dst := some 29, op := Op.move (Operand.tmp 4), type := 3, pos := "ref.go:195", after := #[{ on := 16, ground := Ground.guard }], guard := some (16, false) }) (v := undef) rfl (by kernel_rfl) (by kernel_rfl) (by kernel_rfl) (fun _ _ _ h => h) (Or.inr ⟨by rfl, rfl⟩) (by assumption) ?_
          simp only [Act.put, List.setIfInBounds_toArray, List.set_cons_zero, List.set_cons_succ]
          refine wpAnyH_take (i := 19) (oi := { dst := some 30, op := Op.indexAddr 22 (Operand.tmp 28) (Operand.tmp 29), type := 0, pos := "ref.go:195", after := #[{ on := 17, ground := Ground.data }, { on := 18, ground := Ground.data }, { on := 16, ground := Ground.guard }], guard := some (16, false) }) (v := undef) rfl (by kernel_rfl) (by kernel_rfl) (by kernel_rfl) (fun _ _ _ h => h) (Or.inr ⟨by rfl, rfl⟩) (by assumption) ?_
          simp only [Act.put, List.setIfInBounds_toArray, List.set_cons_zero, List.set_cons_succ]
          refine wpAnyH_take (i := 20) (oi := { dst := some 31, op := Op.fieldAddr 48 (Operand.tmp 30) 0, type := 0, pos := "ref.go:195", after := #[{ on := 19, ground := Ground.data }, { on := 16, ground := Ground.guard }], guard := some (16, false) }) (v := undef) rfl (by kernel_rfl) (by kernel_rfl) (by kernel_rfl) (fun _ _ _ h => h) (Or.inr ⟨by rfl, rfl⟩) (by assumption) ?_
          simp only [Act.put, List.setIfInBounds_toArray, List.set_cons_zero, List.set_cons_succ]
          refine wpAnyH_take (i := 21) (oi := { dst := some 32, op := Op.load 9 (Operand.tmp 31), type := 9, pos := "ref.go:195", after := #[{ on := 20, ground := Ground.data }, { on := 16, ground := Ground.guard }], guard := some (16, false) }) (v := undef) rfl (by kernel_rfl) (by kernel_rfl) (by kernel_rfl) (fun _ _ _ h => h) (Or.inr ⟨by rfl, rfl⟩) (by assumption) ?_
          simp only [Act.put, List.setIfInBounds_toArray, List.set_cons_zero, List.set_cons_succ]
          refine wpAnyH_take (i := 22) (oi := { dst := some 33, op := Op.move (Operand.tmp 3), type := 9, pos := "ref.go:195", after := #[{ on := 16, ground := Ground.guard }], guard := some (16, false) }) (v := undef) rfl (by kernel_rfl) (by kernel_rfl) (by kernel_rfl) (fun _ _ _ h => h) (Or.inr ⟨by rfl, rfl⟩) (by assumption) ?_
          simp only [Act.put, List.setIfInBounds_toArray, List.set_cons_zero, List.set_cons_succ]
          refine wpAnyH_take (i := 23) (oi := { dst := some 34, op := Op.call { callee := Callee.value (Operand.func 46), args := #[Operand.tmp 32, Operand.tmp 33], argTypes := #[9, 9] }, type := 3, pos := "ref.go:195", after := #[{ on := 21, ground := Ground.data }, { on := 22, ground := Ground.data }, { on := 16, ground := Ground.chain }, { on := 16, ground := Ground.guard }], guard := some (16, false) }) (v := undef) rfl (by kernel_rfl) (by kernel_rfl) (by kernel_rfl) (fun _ _ _ h => h) (Or.inr ⟨by rfl, rfl⟩) (by assumption) ?_
          simp only [Act.put, List.setIfInBounds_toArray, List.set_cons_zero, List.set_cons_succ]
          refine wpAnyH_take (i := 24) (oi := { dst := some 35, op := Op.binOp BinOp.lss 3 (Operand.tmp 34) (Operand.const (Value.int IntKind.i64 0)) 3, type := 4, pos := "ref.go:195", after := #[{ on := 23, ground := Ground.data }, { on := 16, ground := Ground.guard }], guard := some (16, false) }) (v := undef) rfl (by kernel_rfl) (by kernel_rfl) (by kernel_rfl) (fun _ _ _ h => h) (Or.inr ⟨by rfl, rfl⟩) (by assumption) ?_
          simp only [Act.put, List.setIfInBounds_toArray, List.set_cons_zero, List.set_cons_succ]
          refine wpAnyH_take (i := 25) (oi := { dst := some 36, op := Op.pick (Operand.tmp 27) (Operand.const (Value.bool true)) (Operand.tmp 35), type := 4, pos := "ref.go:195", after := #[{ on := 16, ground := Ground.data }, { on := 24, ground := Ground.data }, { on := 13, ground := Ground.guard }], guard := some (13, true) }) (v := undef) rfl (by kernel_rfl) (by kernel_rfl) (by kernel_rfl) (fun _ _ _ h => h) (Or.inr ⟨by rfl, rfl⟩) (by assumption) ?_
          simp only [Act.put, List.setIfInBounds_toArray, List.set_cons_zero, List.set_cons_succ]
          refine wpAnyH_take (i := 26) (oi := { dst := some 37, op := Op.pick (Operand.tmp 24) (Operand.tmp 36) (Operand.const (Value.bool false)), type := 4, pos := "ref.go:195", after := #[{ on := 13, ground := Ground.data }, { on := 25, ground := Ground.data }], guard := none }) (v := ?_) rfl (by kernel_rfl) (by kernel_rfl) (by kernel_rfl) (fun _ _ _ h => h) (Or.inl ⟨by rfl, ?_⟩) (by assumption) ?_
          rotate_left
          · (intro w hSw; (try dsimp only at hSw); go_simp; try with_reducible rfl)
          simp only [Act.put, List.setIfInBounds_toArray, List.set_cons_zero, List.set_cons_succ]
          refine wpAnyH_done (by kernel_rfl) ?_ _
          go_wp2_with fail
          go_meet
          exact ⟨rfl, HB3.out⟩
        | true =>
          by_cases hse : s.data.toList = []
          · have hq := HQ.out
            rw [decide_eq_true hse] at hq het hei
            simp only [Bool.true_and, Bool.true_or] at hq
            subst hq
            clear CMP hse
            as_aux_lemma =>
            refine wp_region_held_drew (S := fun w' : World => w'.cell? ⟨nb, noff + k * 2, none⟩ = some (.string x)) (by kernel_rfl) (HSC.out _ HBR.out.drew) (fun hHeld => ?_)
            refine wpAnyH_take (i := 0) (oi := { dst := some 11, op := Op.move (Operand.tmp 0), type := 22, pos := "ref.go:195", after := #[], guard := none }) (v := ?_) rfl (by kernel_rfl) (by kernel_rfl) (by kernel_rfl) (fun _ _ _ h => h) (Or.inl ⟨by rfl, ?_⟩) (by assumption) ?_
            rotate_left
            · (intro w hSw; (try dsimp only at hSw); go_simp; try with_reducible rfl)
            simp only [Act.put, List.setIfInBounds_toArray, List.set_cons_zero, List.set_cons_succ]
            refine wpAnyH_take (i := 1) (oi := { dst := some 12, op := Op.move (Operand.tmp 0), type := 22, pos := "ref.go:195", after := #[], guard := none }) (v := ?_) rfl (by kernel_rfl) (by kernel_rfl) (by kernel_rfl) (fun _ _ _ h => h) (Or.inl ⟨by rfl, ?_⟩) (by assumption) ?_
            rotate_left
            · (intro w hSw; (try dsimp only at hSw); go_simp; try with_reducible rfl)
            simp only [Act.put, List.setIfInBounds_toArray, List.set_cons_zero, List.set_cons_succ]
            refine wpAnyH_take (i := 2) (oi := { dst := some 13, op := Op.move (Operand.tmp 4), type := 3, pos := "ref.go:195", after := #[], guard := none }) (v := ?_) rfl (by kernel_rfl) (by kernel_rfl) (by kernel_rfl) (fun _ _ _ h => h) (Or.inl ⟨by rfl, ?_⟩) (by assumption) ?_
            rotate_left
            · (intro w hSw; (try dsimp only at hSw); go_simp; try with_reducible rfl)
            simp only [Act.put, List.setIfInBounds_toArray, List.set_cons_zero, List.set_cons_succ]
            refine wpAnyH_take (i := 3) (oi := { dst := some 14, op := Op.indexAddr 22 (Operand.tmp 12) (Operand.tmp 13), type := 0, pos := "ref.go:195", after := #[{ on := 1, ground := Ground.data }, { on := 2, ground := Ground.data }], guard := none }) (v := ?_) rfl (by kernel_rfl) (by kernel_rfl) (by kernel_rfl) (fun _ _ _ h => h) (Or.inl ⟨by rfl, ?_⟩) (by assumption) ?_
            rotate_left
            · (intro w hSw; (try dsimp only at hSw); go_simp; try with_reducible rfl)
            simp only [Act.put, List.setIfInBounds_toArray, List.set_cons_zero, List.set_cons_succ]
            refine wpAnyH_take (i := 4) (oi := { dst := some 15, op := Op.fieldAddr 48 (Operand.tmp 14) 0, type := 0, pos := "ref.go:195", after := #[{ on := 3, ground := Ground.data }], guard := none }) (v := ?_) rfl (by kernel_rfl) (by kernel_rfl) (by kernel_rfl) (fun _ _ _ h => h) (Or.inl ⟨by rfl, ?_⟩) (by assumption) ?_
            rotate_left
            · (intro w hSw; (try dsimp only at hSw); go_simp; try with_reducible rfl)
            simp only [Act.put, List.setIfInBounds_toArray, List.set_cons_zero, List.set_cons_succ]
            refine wpAnyH_take (i := 5) (oi := { dst := some 16, op := Op.load 9 (Operand.tmp 15), type := 9, pos := "ref.go:195", after := #[{ on := 4, ground := Ground.data }], guard := none }) (v := ?_) rfl (by kernel_rfl) (by kernel_rfl) (by kernel_rfl) (fun _ _ _ h => h) (Or.inl ⟨by rfl, ?_⟩) (by assumption) ?_
            rotate_left
            · (intro w hSw; (try dsimp only at hSw); go_simp; try with_reducible rfl)
            simp only [Act.put, List.setIfInBounds_toArray, List.set_cons_zero, List.set_cons_succ]
            refine wpAnyH_take (i := 7) (oi := { dst := some 18, op := Op.move (Operand.tmp 0), type := 22, pos := "ref.go:195", after := #[], guard := none }) (v := ?_) rfl (by kernel_rfl) (by kernel_rfl) (by kernel_rfl) (fun _ _ _ h => h) (Or.inl ⟨by rfl, ?_⟩) (by assumption) ?_
            rotate_left
            · (intro w hSw; (try dsimp only at hSw); go_simp; try with_reducible rfl)
            simp only [Act.put, List.setIfInBounds_toArray, List.set_cons_zero, List.set_cons_succ]
            refine wpAnyH_take (i := 8) (oi := { dst := some 19, op := Op.move (Operand.tmp 4), type := 3, pos := "ref.go:195", after := #[], guard := none }) (v := ?_) rfl (by kernel_rfl) (by kernel_rfl) (by kernel_rfl) (fun _ _ _ h => h) (Or.inl ⟨by rfl, ?_⟩) (by assumption) ?_
            rotate_left
            · (intro w hSw; (try dsimp only at hSw); go_simp; try with_reducible rfl)
            simp only [Act.put, List.setIfInBounds_toArray, List.set_cons_zero, List.set_cons_succ]
            refine wpAnyH_take (i := 9) (oi := { dst := some 20, op := Op.indexAddr 22 (Operand.tmp 18) (Operand.tmp 19), type := 0, pos := "ref.go:195", after := #[{ on := 7, ground := Ground.data }, { on := 8, ground := Ground.data }], guard := none }) (v := ?_) rfl (by kernel_rfl) (by kernel_rfl) (by kernel_rfl) (fun _ _ _ h => h) (Or.inl ⟨by rfl, ?_⟩) (by assumption) ?_
            rotate_left
            · (intro w hSw; (try dsimp only at hSw); go_simp; try with_reducible rfl)
            simp only [Act.put, List.setIfInBounds_toArray, List.set_cons_zero, List.set_cons_succ]
            refine wpAnyH_take (i := 10) (oi := { dst := some 21, op := Op.fieldAddr 48 (Operand.tmp 20) 0, type := 0, pos := "ref.go:195", after := #[{ on := 9, ground := Ground.data }], guard := none }) (v := ?_) rfl (by kernel_rfl) (by kernel_rfl) (by kernel_rfl) (fun _ _ _ h => h) (Or.inl ⟨by rfl, ?_⟩) (by assumption) ?_
            rotate_left
            · (intro w hSw; (try dsimp only at hSw); go_simp; try with_reducible rfl)
            simp only [Act.put, List.setIfInBounds_toArray, List.set_cons_zero, List.set_cons_succ]
            refine wpAnyH_take (i := 11) (oi := { dst := some 22, op := Op.load 9 (Operand.tmp 21), type := 9, pos := "ref.go:195", after := #[{ on := 10, ground := Ground.data }], guard := none }) (v := ?_) rfl (by kernel_rfl) (by kernel_rfl) (by kernel_rfl) (fun _ _ _ h => h) (Or.inl ⟨by rfl, ?_⟩) (by assumption) ?_
            rotate_left
            · (intro w hSw; (try dsimp only at hSw); go_simp; try with_reducible rfl)
            simp only [Act.put, List.setIfInBounds_toArray, List.set_cons_zero, List.set_cons_succ]
            refine wpAnyH_ready (rs := [6]) (by kernel_rfl) (by simp) ?_
            refine AllReadyH.cons rfl (fun K hK => ?_) AllReadyH.nil
            go_simp
            go_at_call 49
            refine AB1.out.mono ?_
            rintro e w3 ⟨v, ts, rfl, hs, hd, hb⟩
            have hb3 := HBR.out.drew.trans (hb.mono hbs)
            have HAW := Lib.hid (HAS.out v ts w3 hs hd)
            have HB3 := Lib.hid hb3
            have hcs := HSC.out w3 hb3
            clear hs hd hb hb3
            refine hK.out _ _ ?_ (fun hHeld => ?_)
            · exact hcs
            clear hK K
            try simp only [Act.put, List.setIfInBounds_toArray, List.set_cons_zero, List.set_cons_succ]
            refine wpAnyH_ready (rs := [12]) (by kernel_rfl) (by simp) ?_
            refine AllReadyH.cons rfl (fun K hK => ?_) AllReadyH.nil
            go_simp
            go_at_call 32
            refine HAW.out.mono ?_
            rintro e w4 ⟨rfl, rfl⟩
            refine hK.out _ _ ?_ (fun hHeld => ?_)
            · exact hcs
            clear hK K
            try simp only [Act.put, List.setIfInBounds_toArray, List.set_cons_zero, List.set_cons_succ]
            refine wpAnyH_take (i := 13) (oi := { dst := some 24, op := Op.move (Operand.tmp 23), type := 4, pos := "ref.go:195", after := #[{ on := 12, ground := Ground.data }, { on := 12, ground := Ground.chain }], guard := none }) (v := ?_) rfl (by kernel_rfl) (by kernel_rfl) (by kernel_rfl) (fun _ _ _ h => h) (Or.inl ⟨by rfl, ?_⟩) (by assumption) ?_
            rotate_left
            · (intro w hSw; (try dsimp only at hSw); go_simp; try with_reducible rfl)
            simp only [Act.put, List.setIfInBounds_toArray, List.set_cons_zero, List.set_cons_succ]
            refine wpAnyH_take (i := 14) (oi := { dst := some 25, op := Op.move (Operand.tmp 3), type := 9, pos := "ref.go:195", after := #[{ on := 13, ground := Ground.guard }], guard := some (13, true) }) (v := ?_) rfl (by kernel_rfl) (by kernel_rfl) (by kernel_rfl) (fun _ _ _ h => h) (Or.inl ⟨by rfl, ?_⟩) (by assumption) ?_
            rotate_left
            · (intro w hSw; (try dsimp only at hSw); go_simp; try with_reducible rfl)
            simp only [Act.put, List.setIfInBounds_toArray, List.set_cons_zero, List.set_cons_succ]
            refine wpAnyH_take (i := 15) (oi := { dst := some 26, op := Op.binOp BinOp.eql 9 (Operand.tmp 25) (Operand.const (Value.string { data := #[] })) 9, type := 4, pos := "ref.go:195", after := #[{ on := 14, ground := Ground.data }, { on := 13, ground := Ground.guard }], guard := some (13, true) }) (v := ?_) rfl (by kernel_rfl) (by kernel_rfl) (by kernel_rfl) (fun _ _ _ h => h) (Or.inl ⟨by rfl, ?_⟩) (by assumption) ?_
            rotate_left
            · (intro w hSw; (try dsimp only at hSw); go_simp; try with_reducible rfl)
            simp only [Act.put, List.setIfInBounds_toArray, List.set_cons_zero, List.set_cons_succ]
            refine wpAnyH_take (i := 16) (oi := { dst := some 27, op := Op.move (Operand.tmp 26), type := 4, pos := "ref.go:195", after := #[{ on := 15, ground := Ground.data }, { on := 13, ground := Ground.chain }, { on := 13, ground := Ground.guard }], guard := some (13, true) }) (v := ?_) rfl (by kernel_rfl) (by kernel_rfl) (by kernel_rfl) (fun _ _ _ h => h) (Or.inl ⟨by rfl, ?_⟩) (by assumption) ?_
            rotate_left
            · (intro w hSw; (try dsimp only at hSw); go_simp; try with_reducible rfl)
            simp only [Act.put, List.setIfInBounds_toArray, List.set_cons_zero, List.set_cons_succ]
            refine wpAnyH_take (i := 17) (oi := { dst := some 28, op := Op.move (Operand.tmp 0), type := 22, pos := "ref.go:195", after := #[{ on := 16, ground := Ground.guard }], guard := some (16, false) }) (v := undef) rfl (by kernel_rfl) (by kernel_rfl) (by kernel_rfl) (fun _ _ _ h => h) (Or.inr ⟨by rfl, rfl⟩) (by assumption) ?_
            simp only [Act.put, List.setIfInBounds_toArray, List.set_cons_zero, List.set_cons_succ]
            refine wpAnyH_take (i := 18) (oi := { dst := some 29, op := Op.move (Operand.tmp 4), type := 3, pos := "ref.go:195", after := #[{ on := 16, ground := Ground.guard }], guard := some (16, false) }) (v := undef) rfl (by kernel_rfl) (by kernel_rfl) (by kernel_rfl) (fun _ _ _ h => h) (Or.inr ⟨by rfl, rfl⟩) (by assumption) ?_
            simp only [Act.put, List.setIfInBounds_toArray, List.set_cons_zero, List.set_cons_succ]
            refine wpAnyH_take (i := 19) (oi := { dst := some 30, op := Op.indexAddr 22 (Operand.tmp 28) (Operand.tmp 29), type := 0, pos := "ref.go:195", after := #[{ on := 17, ground := Ground.data }, { on := 18, ground := Ground.data }, { on := 16, ground := Ground.guard }], guard := some (16, false) }) (v := undef) rfl (by kernel_rfl) (by kernel_rfl) (by kernel_rfl) (fun _ _ _ h => h) (Or.inr ⟨by rfl, rfl⟩) (by assumption) ?_
            simp only [Act.put, List.setIfInBounds_toArray, List.set_cons_zero, List.set_cons_succ]
            refine wpAnyH_take (i := 20) (oi := { dst := some 31, op := Op.fieldAddr 48 (Operand.tmp 30) 0, type := 0, pos := "ref.go:195", after := #[{ on := 19, ground := Ground.data }, { on := 16, ground := Ground.guard }], guard := some (16, false) }) (v := undef) rfl (by kernel_rfl) (by kernel_rfl) (by kernel_rfl) (fun _ _ _ h => h) (Or.inr ⟨by rfl, rfl⟩) (by assumption) ?_
            simp only [Act.put, List.setIfInBounds_toArray, List.set_cons_zero, List.set_cons_succ]
            refine wpAnyH_take (i := 21) (oi := { dst := some 32, op := Op.load 9 (Operand.tmp 31), type := 9, pos := "ref.go:195", after := #[{ on := 20, ground := Ground.data }, { on := 16, ground := Ground.guard }], guard := some (16, false) }) (v := undef) rfl (by kernel_rfl) (by kernel_rfl) (by kernel_rfl) (fun _ _ _ h => h) (Or.inr ⟨by rfl, rfl⟩) (by assumption) ?_
            simp only [Act.put, List.setIfInBounds_toArray, List.set_cons_zero, List.set_cons_succ]
            refine wpAnyH_take (i := 22) (oi := { dst := some 33, op := Op.move (Operand.tmp 3), type := 9, pos := "ref.go:195", after := #[{ on := 16, ground := Ground.guard }], guard := some (16, false) }) (v := undef) rfl (by kernel_rfl) (by kernel_rfl) (by kernel_rfl) (fun _ _ _ h => h) (Or.inr ⟨by rfl, rfl⟩) (by assumption) ?_
            simp only [Act.put, List.setIfInBounds_toArray, List.set_cons_zero, List.set_cons_succ]
            refine wpAnyH_take (i := 23) (oi := { dst := some 34, op := Op.call { callee := Callee.value (Operand.func 46), args := #[Operand.tmp 32, Operand.tmp 33], argTypes := #[9, 9] }, type := 3, pos := "ref.go:195", after := #[{ on := 21, ground := Ground.data }, { on := 22, ground := Ground.data }, { on := 16, ground := Ground.chain }, { on := 16, ground := Ground.guard }], guard := some (16, false) }) (v := undef) rfl (by kernel_rfl) (by kernel_rfl) (by kernel_rfl) (fun _ _ _ h => h) (Or.inr ⟨by rfl, rfl⟩) (by assumption) ?_
            simp only [Act.put, List.setIfInBounds_toArray, List.set_cons_zero, List.set_cons_succ]
            refine wpAnyH_take (i := 24) (oi := { dst := some 35, op := Op.binOp BinOp.lss 3 (Operand.tmp 34) (Operand.const (Value.int IntKind.i64 0)) 3, type := 4, pos := "ref.go:195", after := #[{ on := 23, ground := Ground.data }, { on := 16, ground := Ground.guard }], guard := some (16, false) }) (v := undef) rfl (by kernel_rfl) (by kernel_rfl) (by kernel_rfl) (fun _ _ _ h => h) (Or.inr ⟨by rfl, rfl⟩) (by assumption) ?_
            simp only [Act.put, List.setIfInBounds_toArray, List.set_cons_zero, List.set_cons_succ]
            refine wpAnyH_take (i := 25) (oi := { dst := some 36, op := Op.pick (Operand.tmp 27) (Operand.const (Value.bool true)) (Operand.tmp 35), type := 4, pos := "ref.go:195", after := #[{ on := 16, ground := Ground.data }, { on := 24, ground := Ground.data }, { on := 13, ground := Ground.guard }], guard := some (13, true) }) (v := ?_) rfl (by kernel_rfl) (by kernel_rfl) (by kernel_rfl) (fun _ _ _ h => h) (Or.inl ⟨by rfl, ?_⟩) (by assumption) ?_
            rotate_left
            · (intro w hSw; (try dsimp only at hSw); go_simp; try with_reducible rfl)
            simp only [Act.put, List.setIfInBounds_toArray, List.set_cons_zero, List.set_cons_succ]
            refine wpAnyH_take (i := 26) (oi := { dst := some 37, op := Op.pick (Operand.tmp 24) (Operand.tmp 36) (Operand.const (Value.bool false)), type := 4, pos := "ref.go:195", after := #[{ on := 13, ground := Ground.data }, { on := 25, ground := Ground.data }], guard := none }) (v := ?_) rfl (by kernel_rfl) (by kernel_rfl) (by kernel_rfl) (fun _ _ _ h => h) (Or.inl ⟨by rfl, ?_⟩) (by assumption) ?_
            rotate_left
            · (intro w hSw; (try dsimp only at hSw); go_simp; try with_reducible rfl)
            simp only [Act.put, List.setIfInBounds_toArray, List.set_cons_zero, List.set_cons_succ]
            refine wpAnyH_done (by kernel_rfl) ?_ _
            go_wp2_with fail
            go_meet
            exact ⟨rfl, HB3.out⟩
          · have hq := HQ.out
            rw [decide_eq_false hse] at hq het hei
            simp only [Bool.true_and, Bool.false_or] at hq
            subst hq
            clear hse
            as_aux_lemma =>
            refine wp_region_held_drew (S := fun w' : World => w'.cell? ⟨nb, noff + k * 2, none⟩ = some (.string x)) (by kernel_rfl) (HSC.out _ HBR.out.drew) (fun hHeld => ?_)
            refine wpAnyH_take (i := 0) (oi := { dst := some 11, op := Op.move (Operand.tmp 0), type := 22, pos := "ref.go:195", after := #[], guard := none }) (v := ?_) rfl (by kernel_rfl) (by kernel_rfl) (by kernel_rfl) (fun _ _ _ h => h) (Or.inl ⟨by rfl, ?_⟩) (by assumption) ?_
            rotate_left
            · (intro w hSw; (try dsimp only at hSw); go_simp; try with_reducible rfl)
            simp only [Act.put, List.setIfInBounds_toArray, List.set_cons_zero, List.set_cons_succ]
            refine wpAnyH_take (i := 1) (oi := { dst := some 12, op := Op.move (Operand.tmp 0), type := 22, pos := "ref.go:195", after := #[], guard := none }) (v := ?_) rfl (by kernel_rfl) (by kernel_rfl) (by kernel_rfl) (fun _ _ _ h => h) (Or.inl ⟨by rfl, ?_⟩) (by assumption) ?_
            rotate_left
            · (intro w hSw; (try dsimp only at hSw); go_simp; try with_reducible rfl)
            simp only [Act.put, List.setIfInBounds_toArray, List.set_cons_zero, List.set_cons_succ]
            refine wpAnyH_take (i := 2) (oi := { dst := some 13, op := Op.move (Operand.tmp 4), type := 3, pos := "ref.go:195", after := #[], guard := none }) (v := ?_) rfl (by kernel_rfl) (by kernel_rfl) (by kernel_rfl) (fun _ _ _ h => h) (Or.inl ⟨by rfl, ?_⟩) (by assumption) ?_
            rotate_left
            · (intro w hSw; (try dsimp only at hSw); go_simp; try with_reducible rfl)
            simp only [Act.put, List.setIfInBounds_toArray, List.set_cons_zero, List.set_cons_succ]
            refine wpAnyH_take (i := 3) (oi := { dst := some 14, op := Op.indexAddr 22 (Operand.tmp 12) (Operand.tmp 13), type := 0, pos := "ref.go:195", after := #[{ on := 1, ground := Ground.data }, { on := 2, ground := Ground.data }], guard := none }) (v := ?_) rfl (by kernel_rfl) (by kernel_rfl) (by kernel_rfl) (fun _ _ _ h => h) (Or.inl ⟨by rfl, ?_⟩) (by assumption) ?_
            rotate_left
            · (intro w hSw; (try dsimp only at hSw); go_simp; try with_reducible rfl)
            simp only [Act.put, List.setIfInBounds_toArray, List.set_cons_zero, List.set_cons_succ]
            refine wpAnyH_take (i := 4) (oi := { dst := some 15, op := Op.fieldAddr 48 (Operand.tmp 14) 0, type := 0, pos := "ref.go:195", after := #[{ on := 3, ground := Ground.data }], guard := none }) (v := ?_) rfl (by kernel_rfl) (by kernel_rfl) (by kernel_rfl) (fun _ _ _ h => h) (Or.inl ⟨by rfl, ?_⟩) (by assumption) ?_
            rotate_left
            · (intro w hSw; (try dsimp only at hSw); go_simp; try with_reducible rfl)
            simp only [Act.put, List.setIfInBounds_toArray, List.set_cons_zero, List.set_cons_succ]
            refine wpAnyH_take (i := 5) (oi := { dst := some 16, op := Op.load 9 (Operand.tmp 15), type := 9, pos := "ref.go:195", after := #[{ on := 4, ground := Ground.data }], guard := none }) (v := ?_) rfl (by kernel_rfl) (by kernel_rfl) (by kernel_rfl) (fun _ _ _ h => h) (Or.inl ⟨by rfl, ?_⟩) (by assumption) ?_
            rotate_left
            · (intro w hSw; (try dsimp only at hSw); go_simp; try with_reducible rfl)
            simp only [Act.put, List.setIfInBounds_toArray, List.set_cons_zero, List.set_cons_succ]
            refine wpAnyH_take (i := 7) (oi := { dst := some 18, op := Op.move (Operand.tmp 0), type := 22, pos := "ref.go:195", after := #[], guard := none }) (v := ?_) rfl (by kernel_rfl) (by kernel_rfl) (by kernel_rfl) (fun _ _ _ h => h) (Or.inl ⟨by rfl, ?_⟩) (by assumption) ?_
            rotate_left
            · (intro w hSw; (try dsimp only at hSw); go_simp; try with_reducible rfl)
            simp only [Act.put, List.setIfInBounds_toArray, List.set_cons_zero, List.set_cons_succ]
            refine wpAnyH_take (i := 8) (oi := { dst := some 19, op := Op.move (Operand.tmp 4), type := 3, pos := "ref.go:195", after := #[], guard := none }) (v := ?_) rfl (by kernel_rfl) (by kernel_rfl) (by kernel_rfl) (fun _ _ _ h => h) (Or.inl ⟨by rfl, ?_⟩) (by assumption) ?_
            rotate_left
            · (intro w hSw; (try dsimp only at hSw); go_simp; try with_reducible rfl)
            simp only [Act.put, List.setIfInBounds_toArray, List.set_cons_zero, List.set_cons_succ]
            refine wpAnyH_take (i := 9) (oi := { dst := some 20, op := Op.indexAddr 22 (Operand.tmp 18) (Operand.tmp 19), type := 0, pos := "ref.go:195", after := #[{ on := 7, ground := Ground.data }, { on := 8, ground := Ground.data }], guard := none }) (v := ?_) rfl (by kernel_rfl) (by kernel_rfl) (by kernel_rfl) (fun _ _ _ h => h) (Or.inl ⟨by rfl, ?_⟩) (by assumption) ?_
            rotate_left
            · (intro w hSw; (try dsimp only at hSw); go_simp; try with_reducible rfl)
            simp only [Act.put, List.setIfInBounds_toArray, List.set_cons_zero, List.set_cons_succ]
            refine wpAnyH_take (i := 10) (oi := { dst := some 21, op := Op.fieldAddr 48 (Operand.tmp 20) 0, type := 0, pos := "ref.go:195", after := #[{ on := 9, ground := Ground.data }], guard := none }) (v := ?_) rfl (by kernel_rfl) (by kernel_rfl) (by kernel_rfl) (fun _ _ _ h => h) (Or.inl ⟨by rfl, ?_⟩) (by assumption) ?_
            rotate_left
            · (intro w hSw; (try dsimp only at hSw); go_simp; try with_reducible rfl)
            simp only [Act.put, List.setIfInBounds_toArray, List.set_cons_zero, List.set_cons_succ]
            refine wpAnyH_take (i := 11) (oi := { dst := some 22, op := Op.load 9 (Operand.tmp 21), type := 9, pos := "ref.go:195", after := #[{ on := 10, ground := Ground.data }], guard := none }) (v := ?_) rfl (by kernel_rfl) (by kernel_rfl) (by kernel_rfl) (fun _ _ _ h => h) (Or.inl ⟨by rfl, ?_⟩) (by assumption) ?_
            rotate_left
            · (intro w hSw; (try dsimp only at hSw); go_simp; try with_reducible rfl)
            simp only [Act.put, List.setIfInBounds_toArray, List.set_cons_zero, List.set_cons_succ]
            refine wpAnyH_ready (rs := [6]) (by kernel_rfl) (by simp) ?_
            refine AllReadyH.cons rfl (fun K hK => ?_) AllReadyH.nil
            go_simp
            go_at_call 49
            refine AB1.out.mono ?_
            rintro e w3 ⟨v, ts, rfl, hs, hd, hb⟩
            have hb3 := HBR.out.drew.trans (hb.mono hbs)
            have HAW := Lib.hid (HAS.out v ts w3 hs hd)
            have HB3 := Lib.hid hb3
            have hcs := HSC.out w3 hb3
            clear hs hd hb hb3
            refine hK.out _ _ ?_ (fun hHeld => ?_)
            · exact hcs
            clear hK K
            try simp only [Act.put, List.setIfInBounds_toArray, List.set_cons_zero, List.set_cons_succ]
            refine wpAnyH_ready (rs := [12]) (by kernel_rfl) (by simp) ?_
            refine AllReadyH.cons rfl (fun K hK => ?_) AllReadyH.nil
            go_simp
            go_at_call 32
            refine HAW.out.mono ?_
            rintro e w4 ⟨rfl, rfl⟩
            refine hK.out _ _ ?_ (fun hHeld => ?_)
            · exact hcs
            clear hK K
            try simp only [Act.put, List.setIfInBounds_toArray, List.set_cons_zero, List.set_cons_succ]
            refine wpAnyH_take (i := 13) (oi := { dst := some 24, op := Op.move (Operand.tmp 23), type := 4, pos := "ref.go:195", after := #[{ on := 12, ground := Ground.data }, { on := 12, ground := Ground.chain }], guard := none }) (v := ?_) rfl (by kernel_rfl) (by kernel_rfl) (by kernel_rfl) (fun _ _ _ h => h) (Or.inl ⟨by rfl, ?_⟩) (by assumption) ?_
            rotate_left
            · (intro w hSw; (try dsimp only at hSw); go_simp; try with_reducible rfl)
            simp only [Act.put, List.setIfInBounds_toArray, List.set_cons_zero, List.set_cons_succ]
            refine wpAnyH_take (i := 14) (oi := { dst := some 25, op := Op.move (Operand.tmp 3), type := 9, pos := "ref.go:195", after := #[{ on := 13, ground := Ground.guard }], guard := some (13, true) }) (v := ?_) rfl (by kernel_rfl) (by kernel_rfl) (by kernel_rfl) (fun _ _ _ h => h) (Or.inl ⟨by rfl, ?_⟩) (by assumption) ?_
            rotate_left
            · (intro w hSw; (try dsimp only at hSw); go_simp; try with_reducible rfl)
            simp only [Act.put, List.setIfInBounds_toArray, List.set_cons_zero, List.set_cons_succ]
            refine wpAnyH_take (i := 15) (oi := { dst := some 26, op := Op.binOp BinOp.eql 9 (Operand.tmp 25) (Operand.const (Value.string { data := #[] })) 9, type := 4, pos := "ref.go:195", after := #[{ on := 14, ground := Ground.data }, { on := 13, ground := Ground.guard }], guard := some (13, true) }) (v := ?_) rfl (by kernel_rfl) (by kernel_rfl) (by kernel_rfl) (fun _ _ _ h => h) (Or.inl ⟨by rfl, ?_⟩) (by assumption) ?_
            rotate_left
            · (intro w hSw; (try dsimp only at hSw); go_simp; try with_reducible rfl)
            simp only [Act.put, List.setIfInBounds_toArray, List.set_cons_zero, List.set_cons_succ]
            refine wpAnyH_take (i := 16) (oi := { dst := some 27, op := Op.move (Operand.tmp 26), type := 4, pos := "ref.go:195", after := #[{ on := 15, ground := Ground.data }, { on := 13, ground := Ground.chain }, { on := 13, ground := Ground.guard }], guard := some (13, true) }) (v := ?_) rfl (by kernel_rfl) (by kernel_rfl) (by kernel_rfl) (fun _ _ _ h => h) (Or.inl ⟨by rfl, ?_⟩) (by assumption) ?_
            rotate_left
            · (intro w hSw; (try dsimp only at hSw); go_simp; try with_reducible rfl)
            simp only [Act.put, List.setIfInBounds_toArray, List.set_cons_zero, List.set_cons_succ]
            refine wpAnyH_take (i := 17) (oi := { dst := some 28, op := Op.move (Operand.tmp 0), type := 22, pos := "ref.go:195", after := #[{ on := 16, ground := Ground.guard }], guard := some (16, false) }) (v := ?_) rfl (by kernel_rfl) (by kernel_rfl) (by kernel_rfl) (fun _ _ _ h => h) (Or.inl ⟨by rfl, ?_⟩) (by assumption) ?_
            rotate_left
            · (intro w hSw; (try dsimp only at hSw); go_simp; try with_reducible rfl)
            simp only [Act.put, List.setIfInBounds_toArray, List.set_cons_zero, List.set_cons_succ]
            refine wpAnyH_take (i := 18) (oi := { dst := some 29, op := Op.move (Operand.tmp 4), type := 3, pos := "ref.go:195", after := #[{ on := 16, ground := Ground.guard }], guard := some (16, false) }) (v := ?_) rfl (by kernel_rfl) (by kernel_rfl) (by kernel_rfl) (fun _ _ _ h => h) (Or.inl ⟨by rfl, ?_⟩) (by assumption) ?_
            rotate_left
            · (intro w hSw; (try dsimp only at hSw); go_simp; try with_reducible rfl)
            simp only [Act.put, List.setIfInBounds_toArray, List.set_cons_zero, List.set_cons_succ]
            refine wpAnyH_take (i := 19) (oi := { dst := some 30, op := Op.indexAddr 22 (Operand.tmp 28) (Operand.tmp 29), type := 0, pos := "ref.go:195", after := #[{ on := 17, ground := Ground.data }, { on := 18, ground := Ground.data }, { on := 16, ground := Ground.guard }], guard := some (16, false) }) (v := ?_) rfl (by kernel_rfl) (by kernel_rfl) (by kernel_rfl) (fun _ _ _ h => h) (Or.inl ⟨by rfl, ?_⟩) (by assumption) ?_
            rotate_left
            · (intro w hSw; (try dsimp only at hSw); go_simp; try with_reducible rfl)
            simp only [Act.put, List.setIfInBounds_toArray, List.set_cons_zero, List.set_cons_succ]
            refine wpAnyH_take (i := 20) (oi := { dst := some 31, op := Op.fieldAddr 48 (Operand.tmp 30) 0, type := 0, pos := "ref.go:195", after := #[{ on := 19, ground := Ground.data }, { on := 16, ground := Ground.guard }], guard := some (16, false) }) (v := ?_) rfl (by kernel_rfl) (by kernel_rfl) (by kernel_rfl) (fun _ _ _ h => h) (Or.inl ⟨by rfl, ?_⟩) (by assumption) ?_
            rotate_left
            · (intro w hSw; (try dsimp only at hSw); go_simp; try with_reducible rfl)
            simp only [Act.put, List.setIfInBounds_toArray, List.set_cons_zero, List.set_cons_succ]
            refine wpAnyH_take (i := 21) (oi := { dst := some 32, op := Op.load 9 (Operand.tmp 31), type := 9, pos := "ref.go:195", after := #[{ on := 20, ground := Ground.data }, { on := 16, ground := Ground.guard }], guard := some (16, false) }) (v := ?_) rfl (by kernel_rfl) (by kernel_rfl) (by kernel_rfl) (fun _ _ _ h => h) (Or.inl ⟨by rfl, ?_⟩) (by assumption) ?_
            rotate_left
            · (intro w hSw; (try dsimp only at hSw); go_simp; try with_reducible rfl)
            simp only [Act.put, List.setIfInBounds_toArray, List.set_cons_zero, List.set_cons_succ]
            refine wpAnyH_take (i := 22) (oi := { dst := some 33, op := Op.move (Operand.tmp 3), type := 9, pos := "ref.go:195", after := #[{ on := 16, ground := Ground.guard }], guard := some (16, false) }) (v := ?_) rfl (by kernel_rfl) (by kernel_rfl) (by kernel_rfl) (fun _ _ _ h => h) (Or.inl ⟨by rfl, ?_⟩) (by assumption) ?_
            rotate_left
            · (intro w hSw; (try dsimp only at hSw); go_simp; try with_reducible rfl)
            simp only [Act.put, List.setIfInBounds_toArray, List.set_cons_zero, List.set_cons_succ]
            refine wpAnyH_ready (rs := [23]) (by kernel_rfl) (by simp) ?_
            refine AllReadyH.cons rfl (fun K hK => ?_) AllReadyH.nil
            go_simp
            go_at_call 46
            refine (CMP _).out.mono ?_
            rintro e w5 ⟨rfl, hu⟩
            have hb5 := HB3.out.trans (hu.b.mono HB3.out.size)
            have HB5 := Lib.hid hb5
            have hc5 := HSC.out w5 hb5
            clear hu hb5
            refine hK.out _ _ ?_ (fun hHeld => ?_)
            · exact hc5
            clear hK K
            try simp only [Act.put, List.setIfInBounds_toArray, List.set_cons_zero, List.set_cons_succ]
            refine wpAnyH_take (i := 24) (oi := { dst := some 35, op := Op.binOp BinOp.lss 3 (Operand.tmp 34) (Operand.const (Value.int IntKind.i64 0)) 3, type := 4, pos := "ref.go:195", after := #[{ on := 23, ground := Ground.data }, { on := 16, ground := Ground.guard }], guard := some (16, false) }) (v := ?_) rfl (by kernel_rfl) (by kernel_rfl) (by kernel_rfl) (fun _ _ _ h => h) (Or.inl ⟨by rfl, ?_⟩) (by assumption) ?_
            rotate_left
            · (intro w hSw; (try dsimp only at hSw); go_simp; try with_reducible rfl)
            simp only [Act.put, List.setIfInBounds_toArray, List.set_cons_zero, List.set_cons_succ]
            refine wpAnyH_take (i := 25) (oi := { dst := some 36, op := Op.pick (Operand.tmp 27) (Operand.const (Value.bool true)) (Operand.tmp 35), type := 4, pos := "ref.go:195", after := #[{ on := 16, ground := Ground.data }, { on := 24, ground := Ground.data }, { on := 13, ground := Ground.guard }], guard := some (13, true) }) (v := ?_) rfl (by kernel_rfl) (by kernel_rfl) (by kernel_rfl) (fun _ _ _ h => h) (Or.inl ⟨by rfl, ?_⟩) (by assumption) ?_
            rotate_left
            · (intro w hSw; (try dsimp only at hSw); go_simp; try with_reducible rfl)
            simp only [Act.put, List.setIfInBounds_toArray, List.set_cons_zero, List.set_cons_succ]
            refine wpAnyH_take (i := 26) (oi := { dst := some 37, op := Op.pick (Operand.tmp 24) (Operand.tmp 36) (Operand.const (Value.bool false)), type := 4, pos := "ref.go:195", after := #[{ on := 13, ground := Ground.data }, { on := 25, ground := Ground.data }], guard := none }) (v := ?_) rfl (by kernel_rfl) (by kernel_rfl) (by kernel_rfl) (fun _ _ _ h => h) (Or.inl ⟨by rfl, ?_⟩) (by assumption) ?_
            rotate_left
            · (intro w hSw; (try dsimp only at hSw); go_simp; try with_reducible rfl)
            simp only [Act.put, List.setIfInBounds_toArray, List.set_cons_zero, List.set_cons_succ]
            refine wpAnyH_done (by kernel_rfl) ?_ _
            go_wp2_with fail
            go_meet
            exact ⟨rfl, HB5.out⟩
      case rest =>
        obtain ⟨rfl, hbc⟩ := hcut
        generalize wc = w7 at *
        have HBC := Lib.hid hbc
        have hc7 := HSC.out w7 hbc
        clear hbc HAS CMP het hei AB1 HSN
        cases q with
        | true =>
          have HSU3 : Hid (x.data.toList = fnameF (grO ns) (stL (grO ns) (k + 1))) := by unfold Hid; rw [HSU2.out, if_pos rfl]
          clear HQ HSU2
          as_aux_lemma =>
          go_wp2_with fail
          go_roundg (ns.length - (k + 1))
          case measure => omega
          case rel => exact ⟨k + 1, x, by go_num, by rw [HL.out]; omega, by rw [HL.out], rfl, HSU3.out, hxs, HBC.out⟩
        | false =>
          have HSU3 : Hid (s.data.toList = fnameF (grO ns) (stL (grO ns) (k + 1))) := by unfold Hid; rw [HSU2.out, if_neg (by decide)]
          clear HQ HSU2
          as_aux_lemma =>
          go_wp2_with fail
          go_roundg (ns.length - (k + 1))
          case measure => omega
          case rel => exact ⟨k + 1, s, by go_num, by rw [HL.out]; omega, by rw [HL.out], rfl, HSU3.out, hss, HBC.out⟩
    · have he : k = ns.length := by omega
      subst he
      have HFIN : Hid (s.data.toList = fnameF (grO ns) (cycL (grO ns))) := by unfold Hid; rw [HSN.out, ← stL_full HSO.out, HL.out]
      as_aux_lemma =>
      go_wp2_with fail
      go_ret
      exact ⟨s, rfl, HFIN.out, HBR.out⟩
end Go.Proofs.YtfegmmafcopbpaaGreatDoor
