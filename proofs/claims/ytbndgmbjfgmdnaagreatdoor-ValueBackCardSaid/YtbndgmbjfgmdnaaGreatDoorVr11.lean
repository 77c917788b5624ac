/- The walk over the reference's Map. -/
import Derived.Test.YtbndgmbjfgmdnaaGreatDoorVr10
import Derived.Test.YtbndgmbjfgmdnaaGreatDoorVr9m
import Derived.Test.YtbndgmbjfgmdnaaGreatDoorVr5
import Derived.Test.YtbndgmbjfgmdnaaGreatDoorVq9
import Derived.Deep.RegionHeld3
namespace Go.Proofs.YtbndgmbjfgmdnaaGreatDoor
open Go.RowKit Go.Deep

theorem sortN_snoc (L : List VR) (i : Nat) (h : i < L.length) : sortN nmR (L.take (i + 1)) = insN nmR L[i] (sortN nmR (L.take i)) := by
  unfold sortN
  rw [List.take_succ_eq_append_getElem h, List.foldl_append]
  rfl
theorem nm_mem {x : VR} {l : List VR} : nmR x ∈ l.map nmR ↔ x.1 ∈ l.map (·.1) := by
  rw [List.mem_map, List.mem_map]
  exact ⟨fun ⟨y, h1, h2⟩ => ⟨y, h1, bytes_ext h2⟩, fun ⟨y, h1, h2⟩ => ⟨y, h1, congrArg (fun b : ByteArray => b.data.toList) h2⟩⟩
theorem getF_map (S : List VR) (key : ByteArray) : (getF (mapT S) key).isSome = true ↔ key ∈ S.map (·.1) := by
  have hk : (mapT S).kind = 5 := rfl
  have hks : (mapT S).keys = S.map (·.1) := rfl
  have hls : (mapT S).list = S.map (·.2) := rfl
  unfold getF
  rw [if_pos hk, hks, hls]
  cases h : keyPl key (S.map (·.1)) with
  | none => exact ⟨fun h2 => absurd h2 (by simp), fun h2 => absurd h2 (keyPl_mem.1 h)⟩
  | some i =>
    obtain ⟨h1, h2⟩ := keyPl_lt h
    rw [List.length_map] at h1
    have hm : key ∈ S.map (·.1) := List.mem_of_getElem? h2
    rw [Option.bind_some, List.getElem?_map, List.getElem?_eq_getElem h1]
    exact ⟨fun _ => hm, fun _ => rfl⟩
theorem mapT_fit {S : List VR} (hl : S.length ≤ 1024) (h : ∀ x ∈ S, x.2.fit) : (mapT S).fit := by
  unfold mapT
  rw [VT.fit, fitL_iff, List.length_map, List.length_map]
  refine ⟨by omega, by omega, fun t ht => ?_⟩
  obtain ⟨x, hx, rfl⟩ := List.mem_map.1 ht
  exact h x hx
theorem levels_16 {t : VT} (h : validF t = 0) : (levelsF t : Int) = 16 ↔ 16 ≤ levelsF t := by
  have := levels_fit _ 1 t (Nat.le_refl _) h
  omega
/-- the map under way lies in its block, its parts apart from the call's own two blocks -/
def RmSt (W : World) (S : List VR) (w : World) : Prop :=
  ∃ (lo : Option Addr) (lc : Nat) (ko : Option Addr) (kc : Nat), w.heap[W.heap.size + 1]? = some (.cells #[.int .i64 5, .bool false, .int .i64 0, .string ⟨#[]⟩, .slice lo S.length lc, .slice ko S.length kc] 25 (0, 0)) ∧
    VAtB (fun b => b ≠ W.heap.size ∧ b ≠ W.heap.size + 1) w (.agg #[.int .i64 5, .bool false, .int .i64 0, .string ⟨#[]⟩, .slice lo S.length lc, .slice ko S.length kc]) (mapT S)
def RmRel (W : World) (L : List VR) (f : Nat) (t5 : Value) (wr : World) : Prop :=
  ∃ i : Nat, t5 = .int .i64 (i : Nat) ∧ i ≤ L.length ∧ f = L.length - i ∧ entTo [] L = entTo (L.take i) (L.drop i) ∧ (∀ x ∈ L.take i, validF x.2 = 0) ∧ RmSt W (sortN nmR (L.take i)) wr ∧
    wr.heap[W.heap.size]? = some (.cells #[.int .i64 0, .bool false, .int .i64 0, .string ⟨#[]⟩, .slice none 0 0, .slice none 0 0] 25 (0, 0)) ∧ Below W.heap.size W wr

section
open Go.RowKit
theorem wp_store_rowV {P : Program} {o : Oper} {a : Act} {w : World} {K : Act → World → Prop} {Q : Exit → Act → World → Prop} (ty : TypeId) (x y : Operand) (ho : o.op = .store ty x y)
    (g : Nat) (hx : a.eval x = .pointer (some ⟨g, 0, none⟩)) (t : TypeId) (cur : Array Value) (hg : w.heap[g]? = some (.cells cur t (0, 0)))
    (v : Value) (hy : a.eval y = v) (hi : (P.info? ty).map (·.size) = some cur.size) (hs : v.cells.size = cur.size) (h1 : v.cells.toList.all (·.oneCell') = true)
    (h : ∀ w', Wrote g (.cells v.cells t (0, 0)) w w' → K (a.put o.dst undef) w') : Oper.wp P o a w K Q := by
  have hst := run_storeCells_at P g 0 t v.cells.toList 0 cur w hg (by simp [hs]) (List.all_eq_true.1 h1)
  have e : (cur.toList.take (0 + 0) ++ v.cells.toList ++ cur.toList.drop (0 + 0 + v.cells.toList.length)).toArray = v.cells := by
    apply Array.ext'
    simp [hs]
  rw [e] at hst
  obtain ⟨i, hi1, hi2⟩ := Option.map_eq_some_iff.1 hi
  unfold Oper.wp
  simp [execOp, ho, hx, hy, Instr.storeAt, Instr.sureAddr, storeVar, sizeOf, typeInfo, hi1, hi2, hs, hst, Result.andThen]
  exact h _ ⟨rfl, rfl, rfl, by simp [World.setRow], setRow_heap w g cur _ t _ hg, fun k hk => setRow_other w g k _ hk⟩
end
theorem VAt.form {w : World} {v : Value} {t : VT} (h : VAt w v t) : ∃ lo lc ko kc, v = .agg #[.int .i64 t.kind, .bool t.bool, .int .i64 t.int, .string t.str, .slice lo t.list.length lc, .slice ko t.keys.length kc] := by
  obtain ⟨lv, kv, rfl, hs, hL⟩ := h.open
  obtain ⟨ko, kc, rfl⟩ := hs.form
  obtain ⟨lo, lc, rfl⟩ := vlist_slice hL
  exact ⟨lo, lc, ko, kc, rfl⟩

set_option maxRecDepth 100000 in
set_option maxHeartbeats 6400000 in
theorem rmap_any (L : List VR) (v : Value) (B : Nat → Prop) (hl : L.length ≤ 9223372036854775807) (hwf : ∀ x ∈ L, x.2.wf) (hsz : ∀ x ∈ L, x.1.size ≤ 9223372036854775807) (W : World) (h : EVar.Row B W L v) : Calls Tryz.prog 22 #[v] W (MapPost L W) := by
  obtain ⟨ao, cap, rfl⟩ := h.form
  have H := Lib.hid (h.lt.mono (B' := fun b => b < W.heap.size) fun b hb => hb.2)
  have HWF := Lib.hid hwf
  have HSZ := Lib.hid hsz
  obtain ⟨W1, hW1⟩ : ∃ W1, W.alloc (.cells #[.int .i64 0, .bool false, .int .i64 0, .string ⟨#[]⟩, .slice none 0 0, .slice none 0 0] 25 (0, 0)) = W1 := ⟨_, rfl⟩
  obtain ⟨W2, hW2⟩ : ∃ W2, W1.alloc (.cells #[.int .i64 5, .bool false, .int .i64 0, .string ⟨#[]⟩, .slice none 0 0, .slice none 0 0] 25 (0, 0)) = W2 := ⟨_, rfl⟩
  have hs1 : W1.heap.size = W.heap.size + 1 := by rw [← hW1]; simp
  have hs2 : W2.heap.size = W.heap.size + 2 := by rw [← hW2]; simp [hs1]
  have hk1 : W1.heap[W.heap.size]? = some (.cells #[.int .i64 0, .bool false, .int .i64 0, .string ⟨#[]⟩, .slice none 0 0, .slice none 0 0] 25 (0, 0)) := by rw [← hW1]; exact hp_new rfl
  have HB1 : Hid (Below W.heap.size W W1) := by unfold Hid; rw [← hW1]; exact (Below.refl _ W).alloc (Nat.le_refl _) _
  have HM : Hid (mapE L = if 1024 < L.length then 3 else entTo [] L) := rfl
  by_cases h1024 : 1024 < L.length
  · have t1 : (1024 : Int) < (L.length : Int) := by omega
    have HN : Hid (mapE L = 3) := by unfold Hid; rw [HM.out, if_pos h1024]
    have HKK := Lib.hid hk1
    clear h1024 HM hk1 hW2 hs1 hs2 h hwf hsz
    as_aux_lemma =>
    go_enter Tryz.func22, Tryz.ntmps22
    go_wp2_with (refine wpList_store_row rfl 25 _ _ rfl W.heap.size rfl 25 _ HKK.out (.agg #[.int .i64 0, .bool false, .int .i64 0, .string ⟨#[]⟩, .slice none 0 0, .slice none 0 0]) rfl (by kernel_rfl) rfl rfl ?_)
    intro w7 hw7
    have HW7 := Lib.hid hw7
    have HB7 := Lib.hid (HB1.out.trans (hw7.below (Nat.le_refl _)))
    clear hw7
    go_wp2_with fail
    exact bodyPost_ret (results_row_tmp rfl _ _ W.heap.size 25 _ (0, 0) _ rfl HW7.out.at_ Tryz.underlying25 rfl (by kernel_rfl)) rfl (map_fail HN.out (by decide) HB7.out rfl)
  · have t1 : ¬ ((1024 : Int) < (L.length : Int)) := by omega
    have hl24 : L.length ≤ 1024 := by omega
    have HM2 : Hid (mapE L = entTo [] L) := by unfold Hid; rw [HM.out, if_neg h1024]
    have HREL0 : Hid (RmRel W L L.length (.int .i64 ((0 : Nat) : Int)) W2) := by
      have hb : Below W.heap.size W W2 := HB1.out.trans (by rw [← hW2]; exact (Below.refl _ W1).alloc (by omega) _)
      refine ⟨0, rfl, Nat.zero_le _, rfl, rfl, fun x hx => by simp at hx, ⟨none, 0, none, 0, ?_, ⟨_, rfl, vcellB_mk.2 ⟨_, _, rfl, .inl ⟨none, 0, rfl, rfl⟩, .inl ⟨none, 0, rfl, rfl⟩⟩⟩⟩, ?_, hb⟩
      · rw [← hW2, ← hs1]; exact hp_new rfl
      · rw [← hW2]; exact (hp_old (by omega)).trans hk1
    have HW2 := Lib.hid hW2
    clear h1024 HM hk1 h hwf hsz hW2
    go_enter Tryz.func22, Tryz.ntmps22
    go_wp2_with fail
    rw [HW2.out]
    clear hW1 HW2 hs1 hs2 HB1
    go_loopg [5] L.length (RmRel W L)
    case atStart => exact HREL0.out
    case round =>
      obtain ⟨i, rfl, hi, rfl, hen, hval, ⟨mo, mc, no, nc, hkm, hvm⟩, hkr, hbel⟩ := hrel
      have HEN := Lib.hid hen
      have HVL := Lib.hid hval
      have HKM := Lib.hid hkm
      have HVM := Lib.hid hvm
      have HKR := Lib.hid hkr
      have HB := Lib.hid hbel
      have HZR : Hid (W.heap.size + 1 < wr.heap.size) := (Array.getElem?_eq_some_iff.1 hkm).1
      have HSL : Hid ((sortN nmR (L.take i)).length = i) := by unfold Hid; rw [(sortN_perm (nm := nmR) (L.take i)).length_eq, List.length_take]; omega
      rw [HSL.out] at HKM HVM
      -- the blocks of the call in a later world
      have HKW : Hid (∀ W', Below wr.heap.size wr W' → W'.heap[W.heap.size]? = some (.cells #[.int .i64 0, .bool false, .int .i64 0, .string ⟨#[]⟩, .slice none 0 0, .slice none 0 0] 25 (0, 0)) ∧ W'.heap[W.heap.size + 1]? = some (.cells #[.int .i64 5, .bool false, .int .i64 0, .string ⟨#[]⟩, .slice mo i mc, .slice no i nc] 25 (0, 0))) := fun W' hb => ⟨(hb.block _ (by have := HZR.out; omega)).trans HKR.out, (hb.block _ HZR.out).trans HKM.out⟩
      clear hen hval hkm hvm hkr hbel HREL0
      by_cases hlt : i < L.length
      · have hii : (i : Int) < (L.length : Int) := by omega
        obtain ⟨bs, os, ce, rfl, _, hbs, hce0, hvc⟩ := H.out.at hlt
        have HST : Hid (entTo [] L = if entF (L.take i) L[i] ≠ 0 then entF (L.take i) L[i] else entTo (L.take (i + 1)) (L.drop (i + 1))) := by
          unfold Hid
          rw [HEN.out, List.drop_eq_getElem_cons hlt, entTo_step, List.take_succ_eq_append_getElem hlt]
        have HEF : Hid (entF (L.take i) L[i] = if keyOk L[i].1 = false then 1 else if validF L[i].2 ≠ 0 then validF L[i].2 else if 16 ≤ levelsF L[i].2 then 13 else if nmR L[i] ∈ (L.take i).map nmR then 7 else 0) := rfl
        obtain ⟨lo, lc, ko, kc, rfl, hva⟩ := evar_seven hvc
        have HE : Hid (∀ W', Below W.heap.size W W' → W'.cell? ⟨bs, os + i * 7, none⟩ = some (.string L[i].1) ∧ W'.cell? ⟨bs, os + i * 7 + 1, none⟩ = some (.int .i64 L[i].2.kind) ∧ W'.cell? ⟨bs, os + i * 7 + 2, none⟩ = some (.bool L[i].2.bool) ∧ W'.cell? ⟨bs, os + i * 7 + 3, none⟩ = some (.int .i64 L[i].2.int) ∧ W'.cell? ⟨bs, os + i * 7 + 4, none⟩ = some (.string L[i].2.str) ∧ W'.cell? ⟨bs, os + i * 7 + 5, none⟩ = some (.slice lo L[i].2.list.length lc) ∧ W'.cell? ⟨bs, os + i * 7 + 6, none⟩ = some (.slice ko L[i].2.keys.length kc)) := fun W' hb => by
          have e : ∀ (j : Nat) u, [Value.string L[i].1, .int .i64 L[i].2.kind, .bool L[i].2.bool, .int .i64 L[i].2.int, .string L[i].2.str, .slice lo L[i].2.list.length lc, .slice ko L[i].2.keys.length kc][j]? = some u → W'.cell? ⟨bs, os + i * 7 + j, none⟩ = some u := fun j u hu => (hb.cell (p := ⟨bs, os + i * 7 + j, none⟩) hbs).trans (hce0 j u hu)
          exact ⟨e 0 _ rfl, e 1 _ rfl, e 2 _ rfl, e 3 _ rfl, e 4 _ rfl, e 5 _ rfl, e 6 _ rfl⟩
        have VC := fun W' (hW : Below W.heap.size W W') => Lib.hid (rvalid_any _ L[i].2 W' (hva.at_.below hW) (HWF.out _ (List.getElem_mem hlt)))
        have LC := fun (hv : validF L[i].2 = 0) W' (hW : Below W.heap.size W W') => Lib.hid (rlevels_any L[i].2 (fit_valid hv) (by have := levels_valid hv; omega) _ W' (hva.at_.below hW))
        have HMF : Hid ((mapT (sortN nmR (L.take i))).fit) := mapT_fit (by rw [HSL.out]; omega) fun x hx => fit_valid (HVL.out x ((sortN_perm (nm := nmR) (L.take i)).mem_iff.1 hx))
        have GC := fun W' (hW : Below wr.heap.size wr W') => Lib.hid (rget_any (mapT (sortN nmR (L.take i))) L[i].1 HMF.out _ W' (HVM.out.at_.below hW))
        have WC := fun W' (hW : Below wr.heap.size wr W') => Lib.hid (with_any (sortN nmR (L.take i)) L[i] (by rw [HSL.out]; omega) (HSZ.out _ (List.getElem_mem hlt)) (fun y hy => HSZ.out y (List.mem_of_mem_take ((sortN_perm (nm := nmR) (L.take i)).mem_iff.1 hy))) _ [.int .i64 L[i].2.kind, .bool L[i].2.bool, .int .i64 L[i].2.int, .string L[i].2.str, .slice lo L[i].2.list.length lc, .slice ko L[i].2.keys.length kc] W' (fun b => b ≠ W.heap.size ∧ b ≠ W.heap.size + 1) (HVM.out.below hW) (by
          obtain ⟨cs, h1, h2⟩ := (hva.below (HB.out.trans (hW.mono HB.out.size))).mono (B' := fun b => b ≠ W.heap.size ∧ b ≠ W.heap.size + 1) fun b hb => ⟨by omega, by omega⟩
          have h3 : cs = _ := (List.toArray_inj (Value.agg.inj h1)).symm
          subst h3
          exact h2))
        have HSN := Lib.hid (sortN_snoc L i hlt)
        have WC2 : Hid (∀ W' (_ : Below wr.heap.size wr W'), Calls Tryz.prog 51 #[.agg #[.int .i64 5, .bool false, .int .i64 0, .string ⟨#[]⟩, .slice mo i mc, .slice no i nc], .agg #[.string L[i].1, .int .i64 L[i].2.kind, .bool L[i].2.bool, .int .i64 L[i].2.int, .string L[i].2.str, .slice lo L[i].2.list.length lc, .slice ko L[i].2.keys.length kc]] W' fun e w' => ∃ a1 c1 a2 c2, e = .returned (.agg #[.int .i64 5, .bool false, .int .i64 0, .string ⟨#[]⟩, .slice a1 (sortN nmR (L.take (i + 1))).length c1, .slice a2 (sortN nmR (L.take (i + 1))).length c2]) ∧ VAtB (fun b => b ≠ W.heap.size ∧ b ≠ W.heap.size + 1) w' (.agg #[.int .i64 5, .bool false, .int .i64 0, .string ⟨#[]⟩, .slice a1 (sortN nmR (L.take (i + 1))).length c1, .slice a2 (sortN nmR (L.take (i + 1))).length c2]) (mapT (sortN nmR (L.take (i + 1)))) ∧ Below W'.heap.size W' w') := fun W' hW => (WC W' hW).out.mono (by
          rintro e w' ⟨r, rfl, hr, hb⟩
          rw [← HSN.out] at hr
          have hr2 := hr.mono (B' := fun b => b ≠ W.heap.size ∧ b ≠ W.heap.size + 1) fun b hb2 => by
            have h1 := hW.size
            have h2 := HZR.out
            rcases hb2 with h3 | h3
            · exact h3
            · exact ⟨by omega, by omega⟩
          obtain ⟨a1, c1, a2, c2, rfl, _, _⟩ := hr2.open
          have e1 : (mapT (sortN nmR (L.take (i + 1)))).list.length = (sortN nmR (L.take (i + 1))).length := List.length_map _
          have e2 : (mapT (sortN nmR (L.take (i + 1)))).keys.length = (sortN nmR (L.take (i + 1))).length := List.length_map _
          rw [e1, e2] at hr2 ⊢
          exact ⟨a1, c1, a2, c2, rfl, hr2, hb⟩)
        have HGS : Hid ((getF (mapT (sortN nmR (L.take i))) L[i].1).isSome = decide (nmR L[i] ∈ (L.take i).map nmR)) := by
          unfold Hid
          rw [Bool.eq_iff_iff, getF_map, decide_eq_true_iff]
          exact Iff.trans ((sortN_perm (nm := nmR) (L.take i)).map (·.1)).mem_iff nm_mem.symm
        have HV1 : Hid (validF L[i].2 = 0 → ∀ x ∈ L.take (i + 1), validF x.2 = 0) := fun h x hx => by
          rw [List.take_succ_eq_append_getElem hlt, List.mem_append, List.mem_singleton] at hx
          rcases hx with hx | rfl
          · exact HVL.out x hx
          · exact h
        have HL16 := Lib.hid (levels_16 (t := L[i].2))
        have hva2 := Lib.hid hva
        clear hce0 hvc hva WC HSN
        obtain ⟨S2, hS2⟩ : ∃ S2, sortN nmR (L.take (i + 1)) = S2 := ⟨_, rfl⟩
        rw [hS2] at WC2
        have HS2 := Lib.hid hS2
        clear hS2
        generalize L[i] = y at *
        have HSS := Lib.hid HSL.out
        generalize sortN nmR (L.take i) = S at *
        have HFAIL : Hid (∀ (n : Nat) (e : Ending) w7, entF (L.take i) y = n → n ≠ 0 → Below W.heap.size W w7 → e = .returned (.tuple #[.agg #[.int .i64 0, .bool false, .int .i64 0, .string ⟨#[]⟩, .slice none 0 0, .slice none 0 0], .int .i64 ((n : Nat) : Int)]) → MapPost L W e w7) := fun n e w7 h1 h2 hb he => map_fail (by rw [HM2.out, HST.out, if_pos (by rw [h1]; exact h2), h1]) h2 hb he
        have HNEXT : Hid (entF (L.take i) y = 0 → entTo [] L = entTo (L.take (i + 1)) (L.drop (i + 1))) := fun h => by rw [HST.out, if_neg (fun k => k h)]
        generalize entF (L.take i) y = en at *
        obtain ⟨e0, e1, e2, e3, e4, e5, e6⟩ := HE.out wr HB.out
        have KY := Lib.hid (key_any y.1 wr)
        clear HST HM2 HEN HSL
        by_cases hko : keyOk y.1 = false
        · have HE1 : Hid (en = 1) := by unfold Hid; rw [HEF.out, if_pos hko]
          rw [hko] at KY
          have HE0 : Hid ((1 : Nat) ≠ 0) := by unfold Hid; decide
          clear HEF hko
          as_aux_lemma =>
          go_wp2_with fail
          refine KY.out.mono ?_
          rintro e wA ⟨rfl, rfl⟩
          have HBA := Lib.hid HB.out
          have HKA := Lib.hid HKR.out
          go_wp2_with (refine wpList_store_row rfl 25 _ _ rfl W.heap.size rfl 25 _ HKA.out (.agg #[.int .i64 0, .bool false, .int .i64 0, .string ⟨#[]⟩, .slice none 0 0, .slice none 0 0]) rfl (by kernel_rfl) rfl rfl ?_)
          intro w7 hw7
          have HW7 := Lib.hid hw7
          have HB7 := Lib.hid (HBA.out.trans (hw7.below (Nat.le_refl _)))
          clear hw7
          go_wp2_with fail
          exact bodyPost_ret (results_row_tmp rfl _ _ W.heap.size 25 _ (0, 0) _ rfl HW7.out.at_ Tryz.underlying25 rfl (by kernel_rfl)) rfl (by exact HFAIL.out 1 _ _ HE1.out HE0.out HB7.out rfl)
        · have hkt : keyOk y.1 = true := by simpa using hko
          have HEF2 : Hid (en = if validF y.2 ≠ 0 then validF y.2 else if 16 ≤ levelsF y.2 then 13 else if nmR y ∈ (L.take i).map nmR then 7 else 0) := by unfold Hid; rw [HEF.out, if_neg hko]
          rw [hkt] at KY
          have VC1 := VC wr HB.out
          clear HEF hko hkt VC
          generalize hve : validF y.2 = ve at *
          by_cases hv0 : ve = 0
          · have t1b : ((ve : Int) == 0) = true := by rw [hv0]; rfl
            have t1 : ((ve : Int) != 0) = false := by rw [hv0]; rfl
            have hvy : validF y.2 = 0 := hve.trans hv0
            have HEF3 : Hid (en = if 16 ≤ levelsF y.2 then 13 else if nmR y ∈ (L.take i).map nmR then 7 else 0) := by unfold Hid; rw [HEF2.out, if_neg (fun k => k hv0)]
            have HV2 := Lib.hid (HV1.out hv0)
            have HL2 := Lib.hid (HL16.out hv0)
            have LC1 := fun W' hW => LC hv0 W' hW
            clear HEF2 hv0 HV1 HL16 LC hve hvy
            by_cases h16 : 16 ≤ levelsF y.2
            · have HE1 : Hid (en = 13) := by unfold Hid; rw [HEF3.out, if_pos h16]
              have HE0 : Hid ((13 : Nat) ≠ 0) := by unfold Hid; decide
              have t2 : ((levelsF y.2 : Int) == 16) = true := by rw [beq_iff_eq]; exact HL2.out.2 h16
              clear HEF3 h16 HL2
              generalize levelsF y.2 = lv at *
              as_aux_lemma =>
              go_wp2_with fail
              refine KY.out.mono ?_
              rintro e wA ⟨rfl, rfl⟩
              go_wp2_with fail
              refine VC1.out.mono ?_
              rintro e w3 ⟨rfl, hb3⟩
              have HB3 := Lib.hid hb3
              have HBW3 := Lib.hid (HB.out.trans (hb3.mono HB.out.size))
              obtain ⟨e0, e1, e2, e3, e4, e5, e6⟩ := HE.out w3 HBW3.out
              clear hb3 VC1
              go_wp2_with fail
              refine (LC1 w3 HBW3.out).out.mono ?_
              rintro e w4 ⟨rfl, hb4⟩
              have HB4 := Lib.hid (HB3.out.trans (hb4.mono HB3.out.size))
              have HBA := Lib.hid (HB.out.trans (HB4.out.mono HB.out.size))
              have HKA := Lib.hid (HKW.out w4 HB4.out).1
              clear hb4 e0 e1 e2 e3 e4 e5 e6
              go_wp2_with (refine wpList_store_row rfl 25 _ _ rfl W.heap.size rfl 25 _ HKA.out (.agg #[.int .i64 0, .bool false, .int .i64 0, .string ⟨#[]⟩, .slice none 0 0, .slice none 0 0]) rfl (by kernel_rfl) rfl rfl ?_)
              intro w7 hw7
              have HW7 := Lib.hid hw7
              have HB7 := Lib.hid (HBA.out.trans (hw7.below (Nat.le_refl _)))
              clear hw7
              go_wp2_with fail
              exact bodyPost_ret (results_row_tmp rfl _ _ W.heap.size 25 _ (0, 0) _ rfl HW7.out.at_ Tryz.underlying25 rfl (by kernel_rfl)) rfl (by exact HFAIL.out 13 _ _ HE1.out HE0.out HB7.out rfl)
            · have t2 : ((levelsF y.2 : Int) == 16) = false := by rw [beq_eq_false_iff_ne]; exact fun k => h16 (HL2.out.1 k)
              have HEF4 : Hid (en = if decide (nmR y ∈ (L.take i).map nmR) = true then 7 else 0) := by
                unfold Hid
                rw [HEF3.out, if_neg h16]
                by_cases hm : nmR y ∈ (L.take i).map nmR
                · rw [if_pos hm, decide_eq_true hm]; rfl
                · rw [if_neg hm, decide_eq_false hm]; rfl
              clear HEF3 h16 HL2
              generalize decide (nmR y ∈ (L.take i).map nmR) = dm at *
              generalize levelsF y.2 = lv at *
              as_aux_lemma =>
              go_wp2_with fail
              refine KY.out.mono ?_
              rintro e wA ⟨rfl, rfl⟩
              go_wp2_with fail
              refine VC1.out.mono ?_
              rintro e w3 ⟨rfl, hb3⟩
              have HB3 := Lib.hid hb3
              have HBW3 := Lib.hid (HB.out.trans (hb3.mono HB.out.size))
              obtain ⟨e0, e1, e2, e3, e4, e5, e6⟩ := HE.out w3 HBW3.out
              clear hb3 VC1
              go_wp2_with fail
              refine (LC1 w3 HBW3.out).out.mono ?_
              rintro e w4 ⟨rfl, hb4⟩
              have HB4 := Lib.hid (HB3.out.trans (hb4.mono HB3.out.size))
              have HBA := Lib.hid (HB.out.trans (HB4.out.mono HB.out.size))
              clear hb4 e0 e1 e2 e3 e4 e5 e6 LC1 HB3 HBW3
              have HS14 : Hid (∀ W' : World, Below wA.heap.size wA W' → W'.cell? ⟨W.heap.size + 1, 0, none⟩ = some (.int .i64 5) ∧ W'.cell? ⟨W.heap.size + 1, 1, none⟩ = some (.bool false) ∧ W'.cell? ⟨W.heap.size + 1, 2, none⟩ = some (.int .i64 0) ∧ W'.cell? ⟨W.heap.size + 1, 3, none⟩ = some (.string ⟨#[]⟩) ∧ W'.cell? ⟨W.heap.size + 1, 4, none⟩ = some (.slice mo i mc) ∧ W'.cell? ⟨W.heap.size + 1, 5, none⟩ = some (.slice no i nc) ∧ W'.cell? ⟨bs, os + i * 7, none⟩ = some (.string y.1) ∧ Below wA.heap.size wA W') := fun W' hb => by
                have q := (HKW.out W' hb).2
                exact ⟨cell_of_blk q 0, cell_of_blk q 1, cell_of_blk q 2, cell_of_blk q 3, cell_of_blk q 4, cell_of_blk q 5, (HE.out W' (HB.out.trans (hb.mono HB.out.size))).1, hb⟩
              have GA : Hid (∀ W' : World, (W'.cell? ⟨W.heap.size + 1, 0, none⟩ = some (.int .i64 5) ∧ W'.cell? ⟨W.heap.size + 1, 1, none⟩ = some (.bool false) ∧ W'.cell? ⟨W.heap.size + 1, 2, none⟩ = some (.int .i64 0) ∧ W'.cell? ⟨W.heap.size + 1, 3, none⟩ = some (.string ⟨#[]⟩) ∧ W'.cell? ⟨W.heap.size + 1, 4, none⟩ = some (.slice mo i mc) ∧ W'.cell? ⟨W.heap.size + 1, 5, none⟩ = some (.slice no i nc) ∧ W'.cell? ⟨bs, os + i * 7, none⟩ = some (.string y.1) ∧ Below wA.heap.size wA W') → Calls Tryz.prog 26 #[.agg #[.int .i64 5, .bool false, .int .i64 0, .string ⟨#[]⟩, .slice mo i mc, .slice no i nc], .string y.1] W' fun e w' => ∃ (k : Int) (b : Bool) (n : Int) (s : ByteArray) (a1 : Option Addr) (n1 c1 : Nat) (a2 : Option Addr) (n2 c2 : Nat), e = .returned (.tuple #[.agg #[.int .i64 k, .bool b, .int .i64 n, .string s, .slice a1 n1 c1, .slice a2 n2 c2], .bool dm]) ∧ (w'.cell? ⟨W.heap.size + 1, 0, none⟩ = some (.int .i64 5) ∧ w'.cell? ⟨W.heap.size + 1, 1, none⟩ = some (.bool false) ∧ w'.cell? ⟨W.heap.size + 1, 2, none⟩ = some (.int .i64 0) ∧ w'.cell? ⟨W.heap.size + 1, 3, none⟩ = some (.string ⟨#[]⟩) ∧ w'.cell? ⟨W.heap.size + 1, 4, none⟩ = some (.slice mo i mc) ∧ w'.cell? ⟨W.heap.size + 1, 5, none⟩ = some (.slice no i nc) ∧ w'.cell? ⟨bs, os + i * 7, none⟩ = some (.string y.1) ∧ Below wA.heap.size wA w') ∧ Below W'.heap.size W' w') := fun W' hS => (GC W' hS.2.2.2.2.2.2.2).out.mono (by
                rintro e w' ⟨r, rfl, hr, hb⟩
                obtain ⟨a1, c1, a2, c2, rfl⟩ := hr.form
                exact ⟨_, _, _, _, _, _, _, _, _, _, by rw [HGS.out], HS14.out w' (hS.2.2.2.2.2.2.2.trans (hb.mono hS.2.2.2.2.2.2.2.size)), hb⟩)
              have HS0 := Lib.hid (HS14.out _ HB4.out.drew)
              go_upto_region 14 with fail
              refine wp_region_Z (S := fun W' : World => W'.cell? ⟨W.heap.size + 1, 0, none⟩ = some (.int .i64 5) ∧ W'.cell? ⟨W.heap.size + 1, 1, none⟩ = some (.bool false) ∧ W'.cell? ⟨W.heap.size + 1, 2, none⟩ = some (.int .i64 0) ∧ W'.cell? ⟨W.heap.size + 1, 3, none⟩ = some (.string ⟨#[]⟩) ∧ W'.cell? ⟨W.heap.size + 1, 4, none⟩ = some (.slice mo i mc) ∧ W'.cell? ⟨W.heap.size + 1, 5, none⟩ = some (.slice no i nc) ∧ W'.cell? ⟨bs, os + i * 7, none⟩ = some (.string y.1) ∧ Below wA.heap.size wA W') 13 (by kernel_rfl) HS0.out (fun hHeld => ?_)
              refine wpAnyZ_takeL (i := 0) (v := ?_) rfl (by kernel_rfl) (by kernel_rfl) (by kernel_rfl) (by kernel_rfl) (fun _ _ _ h => h) (Or.inl ⟨by rfl, ?_⟩) (by assumption) ?_
              rotate_left
              · (intro w hSw; (try dsimp only at hSw); go_simp; try with_reducible rfl)
              try simp only [Act.put, List.setIfInBounds_toArray, List.set_cons_zero, List.set_cons_succ]
              refine wpAnyZ_takeL (i := 1) (v := ?_) rfl (by kernel_rfl) (by kernel_rfl) (by kernel_rfl) (by kernel_rfl) (fun _ _ _ h => h) (Or.inl ⟨by rfl, ?_⟩) (by assumption) ?_
              rotate_left
              · (intro w hSw; (try dsimp only at hSw); go_simp; try with_reducible rfl)
              try simp only [Act.put, List.setIfInBounds_toArray, List.set_cons_zero, List.set_cons_succ]
              refine wpAnyZ_takeL (i := 2) (v := ?_) rfl (by kernel_rfl) (by kernel_rfl) (by kernel_rfl) (by kernel_rfl) (fun _ _ _ h => h) (Or.inl ⟨by rfl, ?_⟩) (by assumption) ?_
              rotate_left
              · (intro w hSw; (try dsimp only at hSw); go_simp; try with_reducible rfl)
              try simp only [Act.put, List.setIfInBounds_toArray, List.set_cons_zero, List.set_cons_succ]
              refine wpAnyZ_takeL (i := 3) (v := ?_) rfl (by kernel_rfl) (by kernel_rfl) (by kernel_rfl) (by kernel_rfl) (fun _ _ _ h => h) (Or.inl ⟨by rfl, ?_⟩) (by assumption) ?_
              rotate_left
              · (intro w hSw; (try dsimp only at hSw); go_simp; try with_reducible rfl)
              try simp only [Act.put, List.setIfInBounds_toArray, List.set_cons_zero, List.set_cons_succ]
              refine wpAnyZ_takeL (i := 4) (v := ?_) rfl (by kernel_rfl) (by kernel_rfl) (by kernel_rfl) (by kernel_rfl) (fun _ _ _ h => h) (Or.inl ⟨by rfl, ?_⟩) (by assumption) ?_
              rotate_left
              · (intro w hSw; (try dsimp only at hSw); go_simp; try with_reducible rfl)
              try simp only [Act.put, List.setIfInBounds_toArray, List.set_cons_zero, List.set_cons_succ]
              refine wpAnyZ_takeL (i := 5) (v := ?_) rfl (by kernel_rfl) (by kernel_rfl) (by kernel_rfl) (by kernel_rfl) (fun _ _ _ h => h) (Or.inl ⟨by rfl, ?_⟩) (by assumption) ?_
              rotate_left
              · (intro w hSw; (try dsimp only at hSw); go_simp; try with_reducible rfl)
              try simp only [Act.put, List.setIfInBounds_toArray, List.set_cons_zero, List.set_cons_succ]
              obtain ⟨wd, hwd⟩ : ∃ wd, w4.drew = wd := ⟨_, rfl⟩
              have HSD := Lib.hid (hHeld)
              have HBD : Hid (Below wA.heap.size wA wd) := by rw [← hwd]; exact HB4.out.drew
              rw [hwd] at HSD ⊢
              clear hwd hHeld
              refine wpAnyZ_two (i := 6) (j := 10) (by kernel_rfl) rfl rfl (fun K hK => ?_) (fun K hK => ?_)
              · go_simp
                go_at_call 26
                refine (GA.out _ HSD.out).mono ?_
                rintro e wB ⟨gk, gb, gn, gs, ga1, gn1, gc1, ga2, gn2, gc2, rfl, hSB, hb6⟩
                refine hK.out _ _ (fun _ => hSB) (fun hHeld => ?_)
                replace hHeld := hHeld (by decide)
                clear hK K
                try simp only [Act.put, List.setIfInBounds_toArray, List.set_cons_zero, List.set_cons_succ]
                refine wpAnyZ_takeL (i := 7) (v := ?_) rfl (by kernel_rfl) (by kernel_rfl) (by kernel_rfl) (by kernel_rfl) (fun _ _ _ h => h) (Or.inl ⟨by rfl, ?_⟩) (by assumption) ?_
                rotate_left
                · (intro w hSw; (try dsimp only at hSw); go_simp; try with_reducible rfl)
                try simp only [Act.put, List.setIfInBounds_toArray, List.set_cons_zero, List.set_cons_succ]
                refine wpAnyZ_takeL (i := 8) (v := ?_) rfl (by kernel_rfl) (by kernel_rfl) (by kernel_rfl) (by kernel_rfl) (fun _ _ _ h => h) (Or.inl ⟨by rfl, ?_⟩) (by assumption) ?_
                rotate_left
                · (intro w hSw; (try dsimp only at hSw); go_simp; try with_reducible rfl)
                try simp only [Act.put, List.setIfInBounds_toArray, List.set_cons_zero, List.set_cons_succ]
                refine wpAnyZ_takeL (i := 9) (v := ?_) rfl (by kernel_rfl) (by kernel_rfl) (by kernel_rfl) (by kernel_rfl) (fun _ _ _ h => h) (Or.inl ⟨by rfl, ?_⟩) (by assumption) ?_
                rotate_left
                · (intro w hSw; (try dsimp only at hSw); go_simp; try with_reducible rfl)
                try simp only [Act.put, List.setIfInBounds_toArray, List.set_cons_zero, List.set_cons_succ]
                refine wpAnyZ_oneL (i := 10) (by kernel_rfl) rfl (fun K hK => ?_)
                go_simp
                refine hK.out _ _ (fun _ => HS14.out _ (hSB.2.2.2.2.2.2.2.alloc hSB.2.2.2.2.2.2.2.size _)) (fun hHeld => ?_)
                replace hHeld := hHeld (by decide)
                clear hK K
                try simp only [Act.put, List.setIfInBounds_toArray, List.set_cons_zero, List.set_cons_succ]
                refine wpAnyZ_oneL (i := 11) (by kernel_rfl) rfl (fun K hK => ?_)
                rw [if_pos (by rfl)]
                refine wp_store_rowV 25 _ _ rfl wB.heap.size rfl 25 _ (hp_new rfl) (.agg #[.int .i64 gk, .bool gb, .int .i64 gn, .string gs, .slice ga1 gn1 gc1, .slice ga2 gn2 gc2]) rfl (by kernel_rfl) rfl rfl ?_
                intro w7 hw7
                have HB7 : Hid (Below wA.heap.size wA w7) := (hSB.2.2.2.2.2.2.2.alloc hSB.2.2.2.2.2.2.2.size _).trans (hw7.below hSB.2.2.2.2.2.2.2.size)
                clear hw7 hSB
                refine hK.out _ _ (fun _ => HS14.out _ HB7.out) (fun hHeld => ?_)
                replace hHeld := hHeld (by decide)
                clear hK K
                refine wpAnyZ_oneL (i := 12) (by kernel_rfl) rfl (fun K hK => ?_)
                go_simp
                refine hK.out _ _ (fun _ => HS14.out _ HB7.out) (fun hHeld => ?_)
                replace hHeld := hHeld (by decide)
                clear hK K
                try simp only [Act.put, List.setIfInBounds_toArray, List.set_cons_zero, List.set_cons_succ]
                refine wpAnyZ_done (by kernel_rfl) ?_ _
                clear hHeld HSD GA HS0 HS14
                cases dm with
                | true =>
                  have HE1 : Hid (en = 7) := HEF4.out
                  have HE0 : Hid ((7 : Nat) ≠ 0) := by unfold Hid; decide
                  have HBA := Lib.hid (HB.out.trans (HB7.out.mono HB.out.size))
                  have HKA := Lib.hid (HKW.out w7 HB7.out).1
                  clear HB7
                  go_wp2_with (refine wpList_store_row rfl 25 _ _ rfl W.heap.size rfl 25 _ HKA.out (.agg #[.int .i64 0, .bool false, .int .i64 0, .string ⟨#[]⟩, .slice none 0 0, .slice none 0 0]) rfl (by kernel_rfl) rfl rfl ?_)
                  intro w7 hw7
                  have HW7 := Lib.hid hw7
                  have HB7 := Lib.hid (HBA.out.trans (hw7.below (Nat.le_refl _)))
                  clear hw7
                  go_wp2_with fail
                  exact bodyPost_ret (results_row_tmp rfl _ _ W.heap.size 25 _ (0, 0) _ rfl HW7.out.at_ Tryz.underlying25 rfl (by kernel_rfl)) rfl (by exact HFAIL.out 7 _ _ HE1.out HE0.out HB7.out rfl)
                | false =>
                  have HE0 : Hid (en = 0) := HEF4.out
                  have HNX := Lib.hid (HNEXT.out HE0.out)
                  have HBE := Lib.hid (HB.out.trans (HB7.out.mono HB.out.size))
                  obtain ⟨e0, e1, e2, e3, e4, e5, e6⟩ := HE.out w7 HBE.out
                  have hkm7 := (HKW.out w7 HB7.out).2
                  have d0 := cell_of_blk hkm7 0
                  have d1 := cell_of_blk hkm7 1
                  have d2 := cell_of_blk hkm7 2
                  have d3 := cell_of_blk hkm7 3
                  have d4 := cell_of_blk hkm7 4
                  have d5 := cell_of_blk hkm7 5
                  have HB8 : Hid (Below wA.heap.size wA w7.drew) := HB7.out.drew
                  clear hkm7 HFAIL HNEXT HEF4 HE0
                  go_upto_region 17 with fail
                  go_still_tail 5, (by kernel_rfl)
                  change wpList _ _ _ _ _ (World.drew _)
                  go_wp2_with fail
                  refine (WC2.out _ HB8.out).mono ?_
                  rintro e w8 ⟨a1, c1, a2, c2, rfl, hr, hb9⟩
                  have HR := Lib.hid hr
                  have HB9 := Lib.hid (HB8.out.trans (hb9.mono HB8.out.size))
                  have HK9 := Lib.hid (HKW.out w8 HB9.out)
                  clear hr hb9 d0 d1 d2 d3 d4 d5 e0 e1 e2 e3 e4 e5 e6 HB8 HB7 HBE
                  go_wp2_with (refine wpList_store_row rfl 25 _ _ rfl (W.heap.size + 1) rfl 25 _ HK9.out.2 (.agg #[.int .i64 5, .bool false, .int .i64 0, .string ⟨#[]⟩, .slice a1 S2.length c1, .slice a2 S2.length c2]) rfl (by kernel_rfl) rfl rfl ?_)
                  intro w9 hw9
                  have HREL : Hid (RmSt W S2 w9 ∧ w9.heap[W.heap.size]? = some (.cells #[.int .i64 0, .bool false, .int .i64 0, .string ⟨#[]⟩, .slice none 0 0, .slice none 0 0] 25 (0, 0)) ∧ Below W.heap.size W w9) := by
                    obtain ⟨cs, h1, h2⟩ := HR.out
                    exact ⟨⟨a1, c1, a2, c2, hw9.at_, cs, h1, VCellB.keep (Nat.le_of_eq hw9.size.symm) (fun c hc _ => hw9.block c hc.2) _ _ h2⟩, (hw9.block _ (by omega)).trans HK9.out.1, (HB.out.trans (HB9.out.mono HB.out.size)).trans (hw9.below (by omega))⟩
                  clear hw9 HR HK9 HB9
                  go_wp2_with fail
                  go_roundg (L.length - (i + 1))
                  case measure => omega
                  case rel => exact ⟨i + 1, by go_num, by omega, rfl, HNX.out, HV2.out, by rw [HS2.out]; exact HREL.out.1, HREL.out.2.1, HREL.out.2.2⟩
              · go_simp
                refine hK.out _ _ (fun _ => HS14.out _ (HBD.out.alloc HBD.out.size _)) (fun hHeld => ?_)
                replace hHeld := hHeld (by decide)
                clear hK K
                try simp only [Act.put, List.setIfInBounds_toArray, List.set_cons_zero, List.set_cons_succ]
                refine wpAnyZ_oneL (i := 6) (by kernel_rfl) rfl (fun K hK => ?_)
                go_simp
                go_at_call 26
                refine (GA.out _ (HS14.out _ (HBD.out.alloc HBD.out.size _))).mono ?_
                rintro e wB ⟨gk, gb, gn, gs, ga1, gn1, gc1, ga2, gn2, gc2, rfl, hSB, hb6⟩
                refine hK.out _ _ (fun _ => hSB) (fun hHeld => ?_)
                replace hHeld := hHeld (by decide)
                clear hK K
                try simp only [Act.put, List.setIfInBounds_toArray, List.set_cons_zero, List.set_cons_succ]
                refine wpAnyZ_takeL (i := 7) (v := ?_) rfl (by kernel_rfl) (by kernel_rfl) (by kernel_rfl) (by kernel_rfl) (fun _ _ _ h => h) (Or.inl ⟨by rfl, ?_⟩) (by assumption) ?_
                rotate_left
                · (intro w hSw; (try dsimp only at hSw); go_simp; try with_reducible rfl)
                try simp only [Act.put, List.setIfInBounds_toArray, List.set_cons_zero, List.set_cons_succ]
                refine wpAnyZ_takeL (i := 8) (v := ?_) rfl (by kernel_rfl) (by kernel_rfl) (by kernel_rfl) (by kernel_rfl) (fun _ _ _ h => h) (Or.inl ⟨by rfl, ?_⟩) (by assumption) ?_
                rotate_left
                · (intro w hSw; (try dsimp only at hSw); go_simp; try with_reducible rfl)
                try simp only [Act.put, List.setIfInBounds_toArray, List.set_cons_zero, List.set_cons_succ]
                refine wpAnyZ_takeL (i := 9) (v := ?_) rfl (by kernel_rfl) (by kernel_rfl) (by kernel_rfl) (by kernel_rfl) (fun _ _ _ h => h) (Or.inl ⟨by rfl, ?_⟩) (by assumption) ?_
                rotate_left
                · (intro w hSw; (try dsimp only at hSw); go_simp; try with_reducible rfl)
                try simp only [Act.put, List.setIfInBounds_toArray, List.set_cons_zero, List.set_cons_succ]
                refine wpAnyZ_oneL (i := 11) (by kernel_rfl) rfl (fun K hK => ?_)
                rw [if_pos (by rfl)]
                refine wp_store_rowV 25 _ _ rfl wd.heap.size rfl 25 _ ((hb6.block _ (by simp)).trans (hp_new rfl)) (.agg #[.int .i64 gk, .bool gb, .int .i64 gn, .string gs, .slice ga1 gn1 gc1, .slice ga2 gn2 gc2]) rfl (by kernel_rfl) rfl rfl ?_
                intro w7 hw7
                have HB7 : Hid (Below wA.heap.size wA w7) := hSB.2.2.2.2.2.2.2.trans (hw7.below HBD.out.size)
                clear hw7 hSB hb6
                refine hK.out _ _ (fun _ => HS14.out _ HB7.out) (fun hHeld => ?_)
                replace hHeld := hHeld (by decide)
                clear hK K
                refine wpAnyZ_oneL (i := 12) (by kernel_rfl) rfl (fun K hK => ?_)
                go_simp
                refine hK.out _ _ (fun _ => HS14.out _ HB7.out) (fun hHeld => ?_)
                replace hHeld := hHeld (by decide)
                clear hK K
                try simp only [Act.put, List.setIfInBounds_toArray, List.set_cons_zero, List.set_cons_succ]
                refine wpAnyZ_done (by kernel_rfl) ?_ _
                clear hHeld HSD GA HS0 HS14
                cases dm with
                | true =>
                  have HE1 : Hid (en = 7) := HEF4.out
                  have HE0 : Hid ((7 : Nat) ≠ 0) := by unfold Hid; decide
                  have HBA := Lib.hid (HB.out.trans (HB7.out.mono HB.out.size))
                  have HKA := Lib.hid (HKW.out w7 HB7.out).1
                  clear HB7
                  go_wp2_with (refine wpList_store_row rfl 25 _ _ rfl W.heap.size rfl 25 _ HKA.out (.agg #[.int .i64 0, .bool false, .int .i64 0, .string ⟨#[]⟩, .slice none 0 0, .slice none 0 0]) rfl (by kernel_rfl) rfl rfl ?_)
                  intro w7 hw7
                  have HW7 := Lib.hid hw7
                  have HB7 := Lib.hid (HBA.out.trans (hw7.below (Nat.le_refl _)))
                  clear hw7
                  go_wp2_with fail
                  exact bodyPost_ret (results_row_tmp rfl _ _ W.heap.size 25 _ (0, 0) _ rfl HW7.out.at_ Tryz.underlying25 rfl (by kernel_rfl)) rfl (by exact HFAIL.out 7 _ _ HE1.out HE0.out HB7.out rfl)
                | false =>
                  have HE0 : Hid (en = 0) := HEF4.out
                  have HNX := Lib.hid (HNEXT.out HE0.out)
                  have HBE := Lib.hid (HB.out.trans (HB7.out.mono HB.out.size))
                  obtain ⟨e0, e1, e2, e3, e4, e5, e6⟩ := HE.out w7 HBE.out
                  have hkm7 := (HKW.out w7 HB7.out).2
                  have d0 := cell_of_blk hkm7 0
                  have d1 := cell_of_blk hkm7 1
                  have d2 := cell_of_blk hkm7 2
                  have d3 := cell_of_blk hkm7 3
                  have d4 := cell_of_blk hkm7 4
                  have d5 := cell_of_blk hkm7 5
                  have HB8 : Hid (Below wA.heap.size wA w7.drew) := HB7.out.drew
                  clear hkm7 HFAIL HNEXT HEF4 HE0
                  go_upto_region 17 with fail
                  go_still_tail 5, (by kernel_rfl)
                  change wpList _ _ _ _ _ (World.drew _)
                  go_wp2_with fail
                  refine (WC2.out _ HB8.out).mono ?_
                  rintro e w8 ⟨a1, c1, a2, c2, rfl, hr, hb9⟩
                  have HR := Lib.hid hr
                  have HB9 := Lib.hid (HB8.out.trans (hb9.mono HB8.out.size))
                  have HK9 := Lib.hid (HKW.out w8 HB9.out)
                  clear hr hb9 d0 d1 d2 d3 d4 d5 e0 e1 e2 e3 e4 e5 e6 HB8 HB7 HBE
                  go_wp2_with (refine wpList_store_row rfl 25 _ _ rfl (W.heap.size + 1) rfl 25 _ HK9.out.2 (.agg #[.int .i64 5, .bool false, .int .i64 0, .string ⟨#[]⟩, .slice a1 S2.length c1, .slice a2 S2.length c2]) rfl (by kernel_rfl) rfl rfl ?_)
                  intro w9 hw9
                  have HREL : Hid (RmSt W S2 w9 ∧ w9.heap[W.heap.size]? = some (.cells #[.int .i64 0, .bool false, .int .i64 0, .string ⟨#[]⟩, .slice none 0 0, .slice none 0 0] 25 (0, 0)) ∧ Below W.heap.size W w9) := by
                    obtain ⟨cs, h1, h2⟩ := HR.out
                    exact ⟨⟨a1, c1, a2, c2, hw9.at_, cs, h1, VCellB.keep (Nat.le_of_eq hw9.size.symm) (fun c hc _ => hw9.block c hc.2) _ _ h2⟩, (hw9.block _ (by omega)).trans HK9.out.1, (HB.out.trans (HB9.out.mono HB.out.size)).trans (hw9.below (by omega))⟩
                  clear hw9 HR HK9 HB9
                  go_wp2_with fail
                  go_roundg (L.length - (i + 1))
                  case measure => omega
                  case rel => exact ⟨i + 1, by go_num, by omega, rfl, HNX.out, HV2.out, by rw [HS2.out]; exact HREL.out.1, HREL.out.2.1, HREL.out.2.2⟩
          · have t1b : ((ve : Int) == 0) = false := by rw [beq_eq_false_iff_ne]; omega
            have t1 : ((ve : Int) != 0) = true := by simp [bne, t1b]
            have HE1 : Hid (en = ve) := by unfold Hid; rw [HEF2.out, if_pos hv0]
            have HE0 := Lib.hid hv0
            clear HEF2 hv0 HV1 HL16 LC
            as_aux_lemma =>
            go_wp2_with fail
            refine KY.out.mono ?_
            rintro e wA ⟨rfl, rfl⟩
            go_wp2_with fail
            refine VC1.out.mono ?_
            rintro e w3 ⟨rfl, hb3⟩
            have HBA := Lib.hid (HB.out.trans (hb3.mono HB.out.size))
            have HKA := Lib.hid (HKW.out w3 hb3).1
            clear hb3 VC1 e0 e1 e2 e3 e4 e5 e6
            go_wp2_with (refine wpList_store_row rfl 25 _ _ rfl W.heap.size rfl 25 _ HKA.out (.agg #[.int .i64 0, .bool false, .int .i64 0, .string ⟨#[]⟩, .slice none 0 0, .slice none 0 0]) rfl (by kernel_rfl) rfl rfl ?_)
            intro w7 hw7
            have HW7 := Lib.hid hw7
            have HB7 := Lib.hid (HBA.out.trans (hw7.below (Nat.le_refl _)))
            clear hw7
            go_wp2_with fail
            exact bodyPost_ret (results_row_tmp rfl _ _ W.heap.size 25 _ (0, 0) _ rfl HW7.out.at_ Tryz.underlying25 rfl (by kernel_rfl)) rfl (by exact HFAIL.out ve _ _ HE1.out HE0.out HB7.out rfl)
      · have hii : ¬ (i : Int) < (L.length : Int) := by omega
        have he : i = L.length := by omega
        have HM0 : Hid (mapE L = 0) := by unfold Hid; rw [HM2.out, HEN.out, he, List.drop_length, List.take_length]; rfl
        have HMF : Hid (mapF L = mapT (sortN nmR (L.take i))) := by unfold Hid mapF; rw [if_pos HM0.out, he, List.take_length]
        have c0 := cell_of_blk HKM.out 0
        have c1 := cell_of_blk HKM.out 1
        have c2 := cell_of_blk HKM.out 2
        have c3 := cell_of_blk HKM.out 3
        have c4 := cell_of_blk HKM.out 4
        have c5 := cell_of_blk HKM.out 5
        clear he HEN HM2 HVL HSL
        generalize sortN nmR (L.take i) = S at *
        as_aux_lemma =>
        go_wp2_with (refine wpList_store_row rfl 25 _ _ rfl W.heap.size rfl 25 _ HKR.out (.agg #[.int .i64 5, .bool false, .int .i64 0, .string ⟨#[]⟩, .slice mo i mc, .slice no i nc]) rfl (by kernel_rfl) rfl rfl ?_)
        intro w7 hw7
        have HW7 := Lib.hid hw7
        have HB7 := Lib.hid (HB.out.trans (hw7.below (Nat.le_refl _)))
        have HV7 : Hid (VAt w7 (.agg #[.int .i64 5, .bool false, .int .i64 0, .string ⟨#[]⟩, .slice mo i mc, .slice no i nc]) (mapT S)) := by
          obtain ⟨cs, h1, h2⟩ := HVM.out
          exact ⟨cs, h1, VCellB.cell _ _ (VCellB.keep (Nat.le_of_eq hw7.size.symm) (fun c hc _ => hw7.block c hc.1) _ _ h2)⟩
        clear hw7 c0 c1 c2 c3 c4 c5
        go_wp2_with fail
        exact bodyPost_ret (results_row_tmp rfl _ _ W.heap.size 25 _ (0, 0) _ rfl HW7.out.at_ Tryz.underlying25 rfl (by kernel_rfl)) rfl (by exact ⟨_, by rw [HM0.out] <;> rfl, by rw [HMF.out]; exact HV7.out, HB7.out⟩)
end Go.Proofs.YtbndgmbjfgmdnaaGreatDoor
