/- The walk over value.clone. -/
import Derived.Test.YtbndgmbjfgmdnaaGreatDoorVa2
import Derived.Test.YtbndgmbjfgmdnaaGreatDoorVa3
import Derived.Test.YtbndgmbjfgmdnaaGreatDoorVp1
import Derived.Test.YtbndgmbjfgmdnaaGreatDoorShelf
namespace Go.Proofs.YtbndgmbjfgmdnaaGreatDoor
open Go.RowKit Go.Deep

theorem Tryz.vinfoV : (Tryz.prog.info? 25).map (fun i => (i.zero, i.size, i.bytes)) = some (some (.agg #[.int .i64 0, .bool false, .int .i64 0, .string ByteArray.empty, .slice none 0 0, .slice none 0 0]), 6, 88) := by kernel_rfl
theorem Tryz.vinfoV' : ∃ i, Tryz.prog.info? 25 = some i ∧ i.zero = some (.agg #[.int .i64 0, .bool false, .int .i64 0, .string ByteArray.empty, .slice none 0 0, .slice none 0 0]) ∧ i.size = 6 ∧ i.bytes = 88 := info_parts Tryz.vinfoV

/-- slices.Clone of a list of strings -/
theorem sclone_any (v : Value) (ss : List ByteArray) (hl : ss.length * 16 ≤ 140737488355328) (w : World) (h : StrsAt w v ss) : Calls Tryz.prog 76 #[v] w fun e w' => ∃ r, e = .returned r ∧ EStr.Row (fun b => w.heap.size ≤ b) w' ss r ∧ Below w.heap.size w w' := by
  have key : ∀ (w' : World) (r : Value), w'.ownsRow w.heap.size 9 1 r ss.length (ss.map Value.string) → EStr.Row (fun b => w.heap.size ≤ b) w' ss r := fun w' r hr => by
    have : EStr.Own 9 w.heap.size (fun b => w.heap.size ≤ b) w' ss r := ⟨ss.map fun s => [Value.string s], by simp, fun k h1 h2 => by rw [List.getElem_map]; rfl, by
      have e : (ss.map fun s => [Value.string s]).flatten = ss.map Value.string := by
        clear hr hl h
        induction ss with
        | nil => rfl
        | cons a l ih => rw [List.map_cons, List.flatten_cons, ih]; rfl
      rw [e]; exact hr⟩
    exact this.row (fun b hb => hb) (fun b hb => hb)
  rcases h with ⟨ao, cap, rfl, rfl⟩ | ⟨b, off, cap, rfl, hbl, hcap, hcells⟩
  · cases ao with
    | none => exact (Tryz.slices_Clone_string_nil 0 cap w).mono (by rintro e w' ⟨rfl, rfl⟩; exact ⟨_, rfl, .nil, Below.refl _ _⟩)
    | some a => exact (Tryz.slices_Clone_string_zero a cap w).mono (by
        rintro e w' ⟨v', rfl, hr, _, hb⟩
        exact ⟨v', rfl, key w' v' hr, hb⟩)
  · exact (Tryz.slices_Clone_string b off ss.length cap ss w (Nat.le_refl _) hl hcells).mono (by
      rintro e w' ⟨v', rfl, hr, hn, hb⟩
      rw [List.take_length] at hr
      exact ⟨v', rfl, key w' v' hr, hb⟩)

def CloneCalls (t : VT) : Prop := ∀ cs W, VCell W t cs → Calls Tryz.prog 48 #[.agg cs.toArray] W fun e w' => ∃ v, e = .returned v ∧ VAtB (fun b => W.heap.size ≤ b) w' v t ∧ Below W.heap.size W w'
def ClRel (W : World) (k : Int) (b : Bool) (n : Int) (s : ByteArray) (L : List VT) (ks : List ByteArray) (f : Nat) (t15 : Value) (wr : World) : Prop :=
  ∃ (i : Nat) (v kv : Value), t15 = .int .i64 (i : Nat) ∧ i ≤ L.length ∧ f = L.length - i ∧
    wr.heap[W.heap.size + 2]? = some (.cells #[.int .i64 k, .bool b, .int .i64 n, .string s, v, kv] 25 (0, 0)) ∧
    wr.heap[W.heap.size + 1]? = some (.cells #[.int .i64 0, .bool false, .int .i64 0, .string ⟨#[]⟩, .slice none 0 0, .slice none 0 0] 25 (0, 0)) ∧
    EVal.Own 25 (W.heap.size + 3) (fun b => W.heap.size + 3 ≤ b) wr (L.take i) v ∧
    EStr.Row (fun b => W.heap.size + 3 ≤ b ∧ v.ownBlock ≠ some b) wr ks kv ∧ Below W.heap.size W wr

set_option maxRecDepth 100000 in
set_option maxHeartbeats 3200000 in
theorem clone_it (k : Int) (b : Bool) (n : Int) (s : ByteArray) (L : List VT) (ks : List ByteArray) (hf : (VT.mk k b n s L ks).fit) (ih : ∀ x ∈ L, CloneCalls x) : CloneCalls (.mk k b n s L ks) := by
  intro cs W hc
  obtain ⟨hl88, hk16, _⟩ := VT.fit_parts hf
  change L.length * 88 ≤ _ at hl88
  change ks.length * 16 ≤ _ at hk16
  rw [vcell_mk] at hc
  obtain ⟨v4, v5, rfl, hs, hL⟩ := hc
  obtain ⟨ko, kc, rfl⟩ := hs.form
  obtain ⟨lo, lc, rfl⟩ := vlist_slice hL
  obtain ⟨iV, hiV, hzV, hnV, hyV⟩ := Tryz.vinfoV'
  have HI := Lib.hid hiV
  have IH := Lib.hid ih
  have HL := Lib.hid hL
  have HKS := Lib.hid hs
  obtain ⟨W1, hW1⟩ : ∃ W1, W.alloc (.cells #[.int .i64 k, .bool b, .int .i64 n, .string s, .slice lo L.length lc, .slice ko ks.length kc] 25 (0, 0)) = W1 := ⟨_, rfl⟩
  obtain ⟨W2, hW2⟩ : ∃ W2, W1.alloc (.cells #[.int .i64 0, .bool false, .int .i64 0, .string ⟨#[]⟩, .slice none 0 0, .slice none 0 0] 25 (0, 0)) = W2 := ⟨_, rfl⟩
  obtain ⟨W3, hW3⟩ : ∃ W3, W2.alloc (.cells #[.int .i64 k, .bool b, .int .i64 n, .string s, .slice lo L.length lc, .slice ko ks.length kc] 25 (0, 0)) = W3 := ⟨_, rfl⟩
  have hs1 : W1.heap.size = W.heap.size + 1 := by rw [← hW1]; simp
  have hs2 : W2.heap.size = W.heap.size + 2 := by rw [← hW2]; simp [hs1]
  have hs3 : W3.heap.size = W.heap.size + 3 := by rw [← hW3]; simp [hs2]
  have hk0 : W3.heap[W.heap.size]? = some (.cells #[.int .i64 k, .bool b, .int .i64 n, .string s, .slice lo L.length lc, .slice ko ks.length kc] 25 (0, 0)) := by rw [← hW3]; exact (hp_old (by omega)).trans (by rw [← hW2]; exact (hp_old (by omega)).trans (by rw [← hW1]; exact hp_new rfl))
  have hk1 : W3.heap[W.heap.size + 1]? = some (.cells #[.int .i64 0, .bool false, .int .i64 0, .string ⟨#[]⟩, .slice none 0 0, .slice none 0 0] 25 (0, 0)) := by rw [← hW3]; exact (hp_old (by omega)).trans (by rw [← hW2]; exact hp_new (by omega))
  have hk2 : W3.heap[W.heap.size + 2]? = some (.cells #[.int .i64 k, .bool b, .int .i64 n, .string s, .slice lo L.length lc, .slice ko ks.length kc] 25 (0, 0)) := by rw [← hW3]; exact hp_new (by omega)
  have HB3 : Hid (Below W.heap.size W W3) := by unfold Hid; rw [← hW3, ← hW2, ← hW1]; exact (((Below.refl _ W).alloc (Nat.le_refl _) _).alloc (by simp) _).alloc (by simp; omega) _
  have SC := Lib.hid (sclone_any (.slice ko ks.length kc) ks hk16 W3 (hs.below HB3.out))
  have hk02 : W2.heap[W.heap.size]? = some (.cells #[.int .i64 k, .bool b, .int .i64 n, .string s, .slice lo L.length lc, .slice ko ks.length kc] 25 (0, 0)) := by rw [← hW2]; exact (hp_old (by omega)).trans (by rw [← hW1]; exact hp_new rfl)
  have d0 : W2.cell? ⟨W.heap.size, 0, none⟩ = some (.int .i64 k) := cell_of_blk hk02 0
  have d1 : W2.cell? ⟨W.heap.size, 1, none⟩ = some (.bool b) := cell_of_blk hk02 1
  have d2 : W2.cell? ⟨W.heap.size, 2, none⟩ = some (.int .i64 n) := cell_of_blk hk02 2
  have d3 : W2.cell? ⟨W.heap.size, 3, none⟩ = some (.string s) := cell_of_blk hk02 3
  have d4 : W2.cell? ⟨W.heap.size, 4, none⟩ = some (.slice lo L.length lc) := cell_of_blk hk02 4
  have d5 : W2.cell? ⟨W.heap.size, 5, none⟩ = some (.slice ko ks.length kc) := cell_of_blk hk02 5
  have g4 : W3.cell? ⟨W.heap.size, 4, none⟩ = some (.slice lo L.length lc) := cell_of_blk hk0 4
  have g5 : W3.cell? ⟨W.heap.size, 5, none⟩ = some (.slice ko ks.length kc) := cell_of_blk hk0 5
  have HK0 := Lib.hid hk0
  have HK1 := Lib.hid hk1
  have HK2 := Lib.hid hk2
  have HS3 := Lib.hid hs3
  clear hk0 hk1 hk2 hk02 hiV ih hL hs hf
  go_enter Tryz.func48, Tryz.ntmps48
  go_wp2_with fail
  refine SC.out.mono ?_
  rintro e w4 ⟨r, rfl, hr, hb4⟩
  obtain ⟨ro, rc, rfl⟩ := hr.form
  have hk42 := (hb4.block _ (by have := HS3.out; omega)).trans HK2.out
  have hk41 := (hb4.block _ (by have := HS3.out; omega)).trans HK1.out
  have hk40 := (hb4.block _ (by have := HS3.out; omega)).trans HK0.out
  have hs4 := hb4.size
  have hwr5 := wrote_setCell hk42 5 (.slice ro ks.length rc)
  have c45 : w4.cell? ⟨W.heap.size + 2, 5, none⟩ = some (.slice ko ks.length kc) := cell_of_blk hk42 5
  have f45 : w4.frozen? ⟨W.heap.size + 2, 5, none⟩ = false := free_of_blk hk42 5
  obtain ⟨w5, hw5⟩ : ∃ w5, w4.setCell ⟨W.heap.size + 2, 5, none⟩ (.slice ro ks.length rc) = w5 := ⟨_, rfl⟩
  rw [hw5] at hwr5
  have hk52 : w5.heap[W.heap.size + 2]? = some (.cells #[.int .i64 k, .bool b, .int .i64 n, .string s, .slice lo L.length lc, .slice ro ks.length rc] 25 (0, 0)) := hwr5.at_
  have c54 : w5.cell? ⟨W.heap.size + 2, 4, none⟩ = some (.slice lo L.length lc) := cell_of_blk hk52 4
  have f54 : w5.frozen? ⟨W.heap.size + 2, 4, none⟩ = false := free_of_blk hk52 4
  have hwr6 := wrote_setCell hk52 4 (.slice none 0 0)
  obtain ⟨w6, hw6⟩ : ∃ w6, w5.setCell ⟨W.heap.size + 2, 4, none⟩ (.slice none 0 0) = w6 := ⟨_, rfl⟩
  rw [hw6] at hwr6
  have hk62 : w6.heap[W.heap.size + 2]? = some (.cells #[.int .i64 k, .bool b, .int .i64 n, .string s, .slice none 0 0, .slice ro ks.length rc] 25 (0, 0)) := hwr6.at_
  have hk60 := (hwr6.block W.heap.size (by omega)).trans ((hwr5.block W.heap.size (by omega)).trans hk40)
  have c64 : w6.cell? ⟨W.heap.size, 4, none⟩ = some (.slice lo L.length lc) := cell_of_blk hk60 4
  have HREL0 : Hid (ClRel W k b n s L ks L.length (.int .i64 ((0 : Nat) : Int)) w6) := by
    refine ⟨0, _, _, rfl, Nat.zero_le _, rfl, hk62, (hwr6.block _ (by omega)).trans ((hwr5.block _ (by omega)).trans hk41), .nil, ?_, ?_⟩
    · refine ((hr.keep (Nat.le_of_eq hwr5.size.symm) fun c hc _ => hwr5.block c (by have := HS3.out; omega)).keep (Nat.le_of_eq hwr6.size.symm) fun c hc _ => hwr6.block c (by have := HS3.out; omega)).mono fun c hc => ⟨by have := HS3.out; omega, by simp [Value.ownBlock]⟩
    · exact (HB3.out.trans (hb4.mono HB3.out.size)).trans ((hwr5.below (by omega)).trans (hwr6.below (by omega)))
  clear hr hb4 hk42 hk41 hk40 hwr5 hk52 hwr6 hk62 hk60 SC HK0 HK1 HK2 g4 g5 d0 d1 d2 d3 d4 d5 hW1 hW2 hW3 hs1 hs2 hs3
  go_wp2_with fail
  clear hw5 hw6 c45 f45 c54 f54 c64 hs4
  go_loopg [15] L.length (ClRel W k b n s L ks)
  case atStart => exact HREL0.out
  case round =>
    obtain ⟨i, v, kv, rfl, hi, rfl, hk2, hk1, ho, hr, hbel⟩ := hrel
    have hTL : (L.take i).length = i := by rw [List.length_take]; omega
    have HTL := Lib.hid hTL
    obtain ⟨vo, vc, rfl⟩ := ho.form
    rw [hTL] at hk2 ho hr
    have HO := Lib.hid ho
    have HR := Lib.hid hr
    have HB := Lib.hid hbel
    have HK2 := Lib.hid hk2
    have HK1 := Lib.hid hk1
    obtain ⟨ko2, kc2, hkv⟩ := hr.form
    clear ho hr hbel hk1 hTL HREL0 HB3 HKS
    by_cases hlt : i < L.length
    · have hii : (i : Int) < (L.length : Int) := by omega
      obtain ⟨bl, off, ce, rfl, hbl, hce, hvc⟩ := (HL.out.below HB.out).at hlt
      have CC := Lib.hid (IH.out _ (List.getElem_mem hlt) ce)
      obtain ⟨k1, c1, n1, s1, lo1, ln1, lc1, ko1, kn1, kc1, rfl⟩ := vcell_slices0 hvc
      have HVC := Lib.hid hvc
      have e0 := hce 0 _ rfl
      have e1 := hce 1 _ rfl
      have e2 := hce 2 _ rfl
      have e3 := hce 3 _ rfl
      have e4 := hce 4 _ rfl
      have e5 := hce 5 _ rfl
      rw [Nat.add_zero] at e0
      have HTK : Hid (L.take i ++ [L[i]] = L.take (i + 1)) := (List.take_succ_eq_append_getElem hlt).symm
      have hz2 : W.heap.size + 2 < wr.heap.size := (Array.getElem?_eq_some_iff.1 hk2).1
      obtain ⟨w5, hw5⟩ : ∃ w5, wr.alloc (.cells #[.int .i64 k1, .bool c1, .int .i64 n1, .string s1, .slice lo1 ln1 lc1, .slice ko1 kn1 kc1] 25 (0, 0)) = w5 := ⟨_, rfl⟩
      have hb5 : Below wr.heap.size wr w5 := by rw [← hw5]; exact (Below.refl _ wr).alloc (Nat.le_refl _) _
      have hk5 : w5.heap[wr.heap.size]? = some (.cells #[.int .i64 k1, .bool c1, .int .i64 n1, .string s1, .slice lo1 ln1 lc1, .slice ko1 kn1 kc1] 25 (0, 0)) := by rw [← hw5]; exact hp_new rfl
      have HZ5 : Hid (wr.heap.size < w5.heap.size) := (Array.getElem?_eq_some_iff.1 hk5).1
      have HZ2 : Hid (W.heap.size + 2 < w5.heap.size) := by have := HZ5.out; unfold Hid; omega
      have HS5 : Hid (W.heap.size + 3 ≤ w5.heap.size) := by have := HZ2.out; unfold Hid; omega
      have HK25 := Lib.hid ((hb5.block _ hz2).trans HK2.out)
      have HK15 := Lib.hid ((hb5.block (W.heap.size + 1) (by omega)).trans HK1.out)
      have HO5 := Lib.hid (HO.out.below hb5)
      have HR5 := Lib.hid (HR.out.below hb5)
      have HBW := Lib.hid (HB.out.trans (hb5.mono HB.out.size))
      have HOL : Hid (∀ q, (Value.slice vo i vc).ownBlock = some q → q < wr.heap.size) := fun q e => (HO.out.low q e).2
      have HDC : Hid (VCell w5.drew L[i] [.int .i64 k1, .bool c1, .int .i64 n1, .string s1, .slice lo1 ln1 lc1, .slice ko1 kn1 kc1]) := VCell.below (hb5.drew) _ _ HVC.out
      have HDB : Hid (Below w5.heap.size w5 w5.drew) := (Below.refl _ _).drew
      have HS : Hid (∀ W' : World, W'.heap[W.heap.size + 2]? = w5.heap[W.heap.size + 2]? → W'.heap[wr.heap.size]? = w5.heap[wr.heap.size]? →
          W'.cell? ⟨W.heap.size + 2, 4, none⟩ = some (.slice vo i vc) ∧ W'.cell? ⟨wr.heap.size, 0, none⟩ = some (.int .i64 k1) ∧ W'.cell? ⟨wr.heap.size, 1, none⟩ = some (.bool c1) ∧ W'.cell? ⟨wr.heap.size, 2, none⟩ = some (.int .i64 n1) ∧ W'.cell? ⟨wr.heap.size, 3, none⟩ = some (.string s1) ∧ W'.cell? ⟨wr.heap.size, 4, none⟩ = some (.slice lo1 ln1 lc1) ∧ W'.cell? ⟨wr.heap.size, 5, none⟩ = some (.slice ko1 kn1 kc1)) := fun W' h2 h5 => by
        have k2 := h2.trans HK25.out
        have k5 := h5.trans hk5
        exact ⟨cell_of_blk k2 4, cell_of_blk k5 0, cell_of_blk k5 1, cell_of_blk k5 2, cell_of_blk k5 3, cell_of_blk k5 4, cell_of_blk k5 5⟩
      have HXC : Hid (∀ (w6 : World) (lo6 ko6 : Option Addr) (lc6 kc6 : Nat), VAtB (fun q => w5.drew.heap.size ≤ q) w6 (.agg #[.int .i64 L[i].kind, .bool L[i].bool, .int .i64 L[i].int, .string L[i].str, .slice lo6 L[i].list.length lc6, .slice ko6 L[i].keys.length kc6]) L[i] → EVal.R (fun q => w5.heap.size ≤ q) w6 L[i] [.int .i64 L[i].kind, .bool L[i].bool, .int .i64 L[i].int, .string L[i].str, .slice lo6 L[i].list.length lc6, .slice ko6 L[i].keys.length kc6]) := fun w6 lo6 ko6 lc6 kc6 h => by
        obtain ⟨cs, e, hc⟩ := h
        have e2 := Value.agg.inj e
        have e3 : cs = _ := (List.toArray_inj e2).symm
        subst e3
        exact hc
      clear hce hvc hb5 hk5 HO HR HB HVC
      generalize L[i] = x at *
      have HK2 := HK25
      have HK1 := HK15
      clear hk2
      as_aux_lemma =>
      go_upto_region 7 with fail
      clear e0 e1 e2 e3 e4 e5 hw5
      refine wp_region_Z (S := fun w' : World => w'.cell? ⟨W.heap.size + 2, 4, none⟩ = some (.slice vo i vc) ∧ w'.cell? ⟨wr.heap.size, 0, none⟩ = some (.int .i64 k1) ∧ w'.cell? ⟨wr.heap.size, 1, none⟩ = some (.bool c1) ∧ w'.cell? ⟨wr.heap.size, 2, none⟩ = some (.int .i64 n1) ∧ w'.cell? ⟨wr.heap.size, 3, none⟩ = some (.string s1) ∧ w'.cell? ⟨wr.heap.size, 4, none⟩ = some (.slice lo1 ln1 lc1) ∧ w'.cell? ⟨wr.heap.size, 5, none⟩ = some (.slice ko1 kn1 kc1)) 6 (by kernel_rfl) (HS.out _ rfl rfl) (fun hHeld => ?_)
      refine wpAnyZ_takeL (i := 0) (v := ?_) rfl (by kernel_rfl) (by kernel_rfl) (by kernel_rfl) (by kernel_rfl) (fun _ _ _ h => h) (Or.inl ⟨by rfl, ?_⟩) (by assumption) ?_
      rotate_left
      · (intro w hSw; (try dsimp only at hSw); go_simp; try with_reducible rfl)
      try simp only [Act.put, List.setIfInBounds_toArray, List.set_cons_zero, List.set_cons_succ]
      refine wpAnyZ_takeL (i := 1) (v := ?_) rfl (by kernel_rfl) (by kernel_rfl) (by kernel_rfl) (by kernel_rfl) (fun _ _ _ h => h) (Or.inl ⟨by rfl, ?_⟩) (by assumption) ?_
      rotate_left
      · (intro w hSw; (try dsimp only at hSw); go_simp; try with_reducible rfl)
      try simp only [Act.put, List.setIfInBounds_toArray, List.set_cons_zero, List.set_cons_succ]
      refine wpAnyZ_takeL (i := 2) (v := ?_) rfl (by kernel_rfl) (by kernel_rfl) (by kernel_rfl) (by kernel_rfl) (fun _ _ _ h => h) (Or.inl ⟨by rfl, ?_⟩) (by assumption) ?_
      rotate_left
      · (intro w hSw; (try dsimp only at hSw); go_simp; try with_reducible rfl)
      try simp only [Act.put, List.setIfInBounds_toArray, List.set_cons_zero, List.set_cons_succ]
      refine wpAnyZ_oneL (i := 3) (by kernel_rfl) rfl (fun K hK => ?_)
      go_simp
      go_at_call 48
      refine (CC.out w5.drew HDC.out).mono ?_
      rintro e w6 ⟨v6, rfl, hv6, hb6⟩
      obtain ⟨lo6, lc6, ko6, kc6, rfl, hk6, hl6⟩ := hv6.open
      have HX6 := Lib.hid (VAtB.make hk6 hl6)
      have HB6 : Hid (Below w5.heap.size w5 w6) := HDB.out.trans hb6
      clear hv6 hb6 hk6 hl6 CC
      refine hK.out _ _ (fun _ => HS.out w6 (HB6.out.block _ HZ2.out) (HB6.out.block _ HZ5.out)) (fun hHeld => ?_)
      replace hHeld := hHeld (by decide)
      clear hK K
      try simp only [Act.put, List.setIfInBounds_toArray, List.set_cons_zero, List.set_cons_succ]
      refine wpAnyZ_oneL (i := 4) (by kernel_rfl) rfl (fun K hK => ?_)
      rw [if_pos (by rfl)]
      refine wp_build1 22 25 (.tmp 22) rfl #[.int .i64 x.kind, .bool x.bool, .int .i64 x.int, .string x.str, .slice lo6 x.list.length lc6, .slice ko6 x.keys.length kc6] iV _ Tryz.underlying22 HI.out hzV 6 hnV (by decide) (by decide) rfl rfl ?_
      refine hK.out _ _ (fun _ => HS.out _ ((hp_old (Nat.lt_of_lt_of_le HZ2.out HB6.out.size)).trans (HB6.out.block _ HZ2.out)) ((hp_old (Nat.lt_of_lt_of_le HZ5.out HB6.out.size)).trans (HB6.out.block _ HZ5.out))) (fun hHeld => ?_)
      replace hHeld := hHeld (by decide)
      clear hK K
      try simp only [Act.put, List.setIfInBounds_toArray, List.set_cons_zero, List.set_cons_succ]
      obtain ⟨css, hcl, hcR, hrow⟩ := (HO5.out.below HB6.out).below ((Below.refl w6.heap.size w6).alloc (Nat.le_refl _) (.cells #[.int .i64 x.kind, .bool x.bool, .int .i64 x.int, .string x.str, .slice lo6 x.list.length lc6, .slice ko6 x.keys.length kc6] 25 (0, 0)))
      have HCL := Lib.hid hcl
      have HCR := Lib.hid hcR
      rw [HTL.out] at hrow
      have HROW := Lib.hid hrow
      clear hcl hcR hrow
      refine wpAnyZ_oneL (i := 5) (by kernel_rfl) rfl (fun K hK => ?_)
      rw [if_pos (by rfl)]
      refine wp_append_lies _ (.tmp 20) (.tmp 23) 22 rfl (W.heap.size + 3) 25 iV _ 6 88 Tryz.underlying22 HI.out hzV hnV hyV rfl (by decide) (.slice vo i vc) i css.flatten rfl HROW.out ⟨w6.heap.size, 0, none⟩ 1 1 [.int .i64 x.kind, .bool x.bool, .int .i64 x.int, .string x.str, .slice lo6 x.list.length lc6, .slice ko6 x.keys.length kc6] rfl rfl (World.news_of_block (cs := #[.int .i64 x.kind, .bool x.bool, .int .i64 x.int, .string x.str, .slice lo6 x.list.length lc6, .slice ko6 x.keys.length kc6]) (t := 25) (fr := (0, 0)) (hp_new rfl)) (by intro u hu; simp at hu; rcases hu with rfl | rfl | rfl | rfl | rfl | rfl <;> rfl) (by decide) (by unfold maxLen; omega) (by omega) (by have := HB6.out.size; have := HS5.out; simp; omega) _ rfl ?_
      intro g1 cap1 w8 hown hgrow hat hlt8
      have HG8 : Hid (∀ q, q < w6.heap.size → q ≤ W.heap.size + 2 ∨ q = wr.heap.size → w8.heap[q]? = w6.heap[q]?) := fun q hq hq2 => (hgrow.block q (by simp; omega) (fun e => by
        have h1 := HO5.out.low q e.symm
        have h2 := HOL.out q e.symm
        omega)).trans (hp_old hq)
      have hz26 := Nat.lt_of_lt_of_le HZ2.out HB6.out.size
      have hz56 := Nat.lt_of_lt_of_le HZ5.out HB6.out.size
      refine hK.out _ _ (fun _ => HS.out w8 ((HG8.out _ hz26 (.inl (Nat.le_refl _))).trans (HB6.out.block _ HZ2.out)) ((HG8.out _ hz56 (.inr rfl)).trans (HB6.out.block _ HZ5.out))) (fun hHeld => ?_)
      replace hHeld := hHeld (by decide)
      clear hK K
      try simp only [Act.put, List.setIfInBounds_toArray, List.set_cons_zero, List.set_cons_succ]
      refine wpAnyZ_oneL (i := 6) (by kernel_rfl) rfl (fun K hK => ?_)
      go_simp
      refine hK.out _ _ (fun h => absurd h (by decide)) (fun _ => ?_)
      clear hK K
      try simp only [Act.put, List.setIfInBounds_toArray, List.set_cons_zero, List.set_cons_succ]
      have hk28 : w8.heap[W.heap.size + 2]? = some (.cells #[.int .i64 k, .bool b, .int .i64 n, .string s, .slice vo i vc, kv] 25 (0, 0)) := (HG8.out _ hz26 (.inl (Nat.le_refl _))).trans ((HB6.out.block _ HZ2.out).trans HK2.out)
      have hk18 : w8.heap[W.heap.size + 1]? = some (.cells #[.int .i64 0, .bool false, .int .i64 0, .string ⟨#[]⟩, .slice none 0 0, .slice none 0 0] 25 (0, 0)) := (HG8.out _ (by omega) (.inl (by omega))).trans ((HB6.out.block _ (by have := HZ2.out; omega)).trans HK1.out)
      have c8 : w8.cell? ⟨W.heap.size + 2, 4, none⟩ = some (.slice vo i vc) := cell_of_blk hk28 4
      have f8 : w8.frozen? ⟨W.heap.size + 2, 4, none⟩ = false := free_of_blk hk28 4
      have hwr := wrote_setCell hk28 4 (.slice (some ⟨g1, 0, none⟩) (i + 1) cap1)
      have HREL : Hid (ClRel W k b n s L ks (L.length - (i + 1)) (.int .i64 ((i + 1 : Nat) : Int)) (w8.setCell ⟨W.heap.size + 2, 4, none⟩ (.slice (some ⟨g1, 0, none⟩) (i + 1) cap1))) := by
        have hgb : W.heap.size + 3 ≤ g1 ∧ g1 < w8.heap.size := hown.lt g1 rfl
        have hge : some (W.heap.size + 2) ≠ some g1 := fun e => by have := Option.some.inj e; omega
        have hpush := ElemK.Own.push (E := EVal) (L := L.take i) (x := x) (css := css) HCL.out HCR.out ((EVal.mono (ElemK.R.below (E := EVal) (HXC.out w6 lo6 ko6 lc6 kc6 HX6.out) ((Below.refl w6.heap.size w6).alloc (Nat.le_refl _) _)) fun q hq => ⟨by have := HS5.out; omega, fun e => by have := HOL.out q e; have := HZ5.out; omega⟩)) hgrow hat (by rw [HTL.out]; exact hown)
        rw [HTL.out, HTK.out] at hpush
        refine ⟨i + 1, _, kv, rfl, by omega, rfl, ?_, ?_, ElemK.Own.wrote hpush hwr (fun e => hge e.symm) (fun c hc => by omega), ?_, ?_⟩
        · exact hwr.at_
        · exact (hwr.block _ (by omega)).trans hk18
        · exact (((((HR5.out.below HB6.out).below ((Below.refl w6.heap.size w6).alloc (Nat.le_refl _) _)).pushed hgrow ⟨g1, cap1, rfl, hat⟩)).keep (Nat.le_of_eq hwr.size.symm) fun c hc _ => hwr.block c (by omega))
        · exact (((HBW.out.trans (HB6.out.mono HBW.out.size)).trans (((Below.refl w6.heap.size w6).alloc (Nat.le_refl _) _).mono (Nat.le_trans HBW.out.size HB6.out.size))).trans (below_grown hgrow (by simp; have := HBW.out.size; have := HB6.out.size; omega) (fun q e => by have := (HO5.out.low q e).1; omega))).trans (hwr.below (by omega))
      clear hown hgrow hat hlt8 hk28 hk18 hwr
      refine wpAnyZ_oneL (i := 7) (by kernel_rfl) rfl (fun K hK => ?_)
      go_simp
      refine hK.out _ _ (fun h => absurd h (by decide)) (fun _ => ?_)
      clear hK K
      try simp only [Act.put, List.setIfInBounds_toArray, List.set_cons_zero, List.set_cons_succ]
      refine wpAnyZ_done (by kernel_rfl) ?_ _
      clear c8 f8 hHeld
      generalize w8.setCell ⟨W.heap.size + 2, 4, none⟩ (.slice (some ⟨g1, 0, none⟩) (i + 1) cap1) = w9 at *
      go_wp2_with fail
      go_roundg (L.length - (i + 1))
      case measure => omega
      case rel =>
        have h := HREL.out
        rw [show ((i + 1 : Nat) : Int) = (i : Int) + 1 by omega] at h
        exact h
    · have hii : ¬ (i : Int) < (L.length : Int) := by omega
      have hiL : i = L.length := by omega
      have HV : Hid (VAtB (fun q => W.heap.size + 3 ≤ q) wr (.agg #[.int .i64 k, .bool b, .int .i64 n, .string s, .slice vo L.length vc, kv]) (.mk k b n s L ks)) := by
        have h1 : EVal.Row (fun q => W.heap.size + 3 ≤ q) wr L (.slice vo L.length vc) := by
          have := HO.out.row (B' := fun q => W.heap.size + 3 ≤ q) (fun q hq => hq) (fun q hq => hq)
          rw [hiL, List.take_length] at this
          exact this
        have h2 := HR.out.mono (B' := fun q => W.heap.size + 3 ≤ q) (fun q hq => hq.1)
        exact ⟨_, rfl, vcellB_mk.2 ⟨_, _, rfl, h2, h1⟩⟩
      have hk2 := HK2.out
      rw [hiL] at hk2
      have hk1 := HK1.out
      subst hkv
      have g0 : wr.cell? ⟨W.heap.size + 2, 0, none⟩ = some (.int .i64 k) := cell_of_blk hk2 0
      have g1 : wr.cell? ⟨W.heap.size + 2, 1, none⟩ = some (.bool b) := cell_of_blk hk2 1
      have g2 : wr.cell? ⟨W.heap.size + 2, 2, none⟩ = some (.int .i64 n) := cell_of_blk hk2 2
      have g3 : wr.cell? ⟨W.heap.size + 2, 3, none⟩ = some (.string s) := cell_of_blk hk2 3
      have g4 : wr.cell? ⟨W.heap.size + 2, 4, none⟩ = some (.slice vo L.length vc) := cell_of_blk hk2 4
      have g5 : wr.cell? ⟨W.heap.size + 2, 5, none⟩ = some (.slice ko2 ks.length kc2) := cell_of_blk hk2 5
      have HK1 := Lib.hid hk1
      clear hk2 hk1 HK2 HO HR hiL
      go_wp2_with (refine wpList_store_row rfl 25 _ _ rfl (W.heap.size + 1) rfl 25 _ HK1.out (.agg #[.int .i64 k, .bool b, .int .i64 n, .string s, .slice vo L.length vc, .slice ko2 ks.length kc2]) rfl (by kernel_rfl) rfl rfl ?_)
      intro w7 hw7
      have HW7 := Lib.hid hw7
      have HB7 := Lib.hid (HB.out.trans (hw7.below (by omega)))
      have HV7 : Hid (VAtB (fun q => W.heap.size ≤ q) w7 (.agg #[.int .i64 k, .bool b, .int .i64 n, .string s, .slice vo L.length vc, .slice ko2 ks.length kc2]) (.mk k b n s L ks)) := by
        obtain ⟨cs, h1, h2⟩ := HV.out
        exact ⟨cs, h1, VCellB.mono (fun q hq => by omega) _ _ (VCellB.keep (Nat.le_of_eq hw7.size.symm) (fun c hc _ => hw7.block c (by omega)) _ _ h2)⟩
      clear hw7 HV g0 g1 g2 g3 g4 g5 HK1
      go_wp2_with fail
      exact bodyPost_ret (results_row1 rfl _ _ (W.heap.size + 1) 25 _ (0, 0) _ rfl HW7.out.at_ Tryz.underlying25 rfl (by kernel_rfl)) rfl ⟨_, rfl, HV7.out, HB7.out⟩
theorem clone_all : ∀ (m : Nat) (t : VT), SizeOf.sizeOf t ≤ m → t.fit → CloneCalls t
  | 0, t, hm, _ => by
    cases t
    simp only [VT.mk.sizeOf_spec] at hm
    omega
  | m + 1, .mk k b n s L ks, hm, hf =>
    clone_it k b n s L ks hf fun t ht => clone_all m t (by have := vt_lt (k := k) (b := b) (n := n) (s := s) (ks := ks) ht; omega) ((VT.fit_parts hf).2.2 t ht)
/-- value.clone of any value whose slices fit memory -/
theorem vclone_any (t : VT) (hf : t.fit) (v : Value) (W : World) (h : VAt W v t) : Calls Tryz.prog 48 #[v] W fun e w' => ∃ u, e = .returned u ∧ VAtB (fun q => W.heap.size ≤ q) w' u t ∧ Below W.heap.size W w' := by
  obtain ⟨cs, rfl, hc⟩ := h
  exact clone_all _ t (Nat.le_refl _) hf cs W hc
end Go.Proofs.YtbndgmbjfgmdnaaGreatDoor
