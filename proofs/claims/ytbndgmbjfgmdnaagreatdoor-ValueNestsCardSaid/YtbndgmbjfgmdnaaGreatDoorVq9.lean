/- The walk over value.Map. -/
import Derived.Test.YtbndgmbjfgmdnaaGreatDoorVq7m
import Derived.Test.YtbndgmbjfgmdnaaGreatDoorVa3
namespace Go.Proofs.YtbndgmbjfgmdnaaGreatDoor
open Go.RowKit Go.Deep

theorem Tryz.vinfo9 : (Tryz.prog.info? 9).map (fun i => (i.zero, i.size, i.bytes)) = some (some (.string ByteArray.empty), 1, 16) := by kernel_rfl
theorem Tryz.vinfo9' : ∃ i, Tryz.prog.info? 9 = some i ∧ i.zero = some (.string ByteArray.empty) ∧ i.size = 1 ∧ i.bytes = 16 := info_parts Tryz.vinfo9
/-- the map under way: keys and values so far -/
structure MpSt (D : Nat) (S : List VR) (i j : Nat) (kv lv : Value) (w : World) : Prop where
  blk : w.heap[D]? = some (.cells #[.int .i64 5, .bool false, .int .i64 0, .string ⟨#[]⟩, lv, kv] 25 (0, 0))
  ks : EStr.Own 9 (D + 1) (fun _ => False) w ((S.take i).map (·.1)) kv
  vs : EVal.Own 25 (D + 1) (fun b => D + 1 ≤ b ∧ kv.ownBlock ≠ some b) w ((S.take j).map (·.2)) lv
  ne : ∀ b, kv.ownBlock = some b → lv.ownBlock ≠ some b
theorem MpSt.below {D : Nat} {S : List VR} {i j : Nat} {kv lv : Value} {w w1 : World} (h : MpSt D S i j kv lv w) (hb : Below w.heap.size w w1) : MpSt D S i j kv lv w1 :=
  ⟨(hb.block D (Array.getElem?_eq_some_iff.1 h.blk).1).trans h.blk, h.ks.below hb, h.vs.below hb, h.ne⟩
theorem ownBlock_low {α : Type} {E : ElemK α} {e : TypeId} {base : Nat} {B : Nat → Prop} {w : World} {L : List α} {v : Value} (h : E.Own e base B w L v) {D : Nat} (hD : D < base) : v.ownBlock ≠ some D := fun e => by
  have := (h.low D e).1; omega
theorem MpSt.key {D : Nat} {S : List VR} {i n : Nat} {kv kv' lv : Value} {w w1 w2 : World} (h : MpSt D S i i kv lv w) (hi : i < S.length) (hown : EStr.Own 9 (D + 1) (fun _ => False) w1 ((S.take i).map (·.1) ++ [S[i].1]) kv')
    (hg : w.grownBy w1 kv.ownBlock) (hp : Pushed kv n w.heap.size kv') (hw : Wrote D (.cells #[.int .i64 5, .bool false, .int .i64 0, .string ⟨#[]⟩, lv, kv'] 25 (0, 0)) w1 w2) : MpSt D S (i + 1) i kv' lv w2 := by
  have hk : (S.take (i + 1)).map (·.1) = (S.take i).map (·.1) ++ [S[i].1] := by rw [List.take_succ_eq_append_getElem hi, List.map_append]; rfl
  have hkv := ownBlock_low hown (show D < D + 1 by omega)
  have hlv := ownBlock_low h.vs (show D < D + 1 by omega)
  have hvs : EVal.Own 25 (D + 1) (fun b => D + 1 ≤ b ∧ kv'.ownBlock ≠ some b) w1 ((S.take i).map (·.2)) lv := by
    refine ElemK.Own.mono (h.vs.lt.kept hg ?_ fun b hb _ e => hb.1.2 e.symm) fun b hb => ⟨hb.1.1, ?_⟩
    · cases hl : lv.ownBlock with
      | none => exact .inl rfl
      | some b => exact .inr fun e => h.ne b e.symm hl
    · obtain ⟨g, cap, rfl, hat⟩ := hp
      intro e
      have e : g = b := Option.some.inj e
      subst e
      rcases hat with h1 | h1
      · exact hb.1.2 h1
      · have := hb.2; omega
  refine ⟨hw.at_, by rw [hk]; exact hown.wrote hw hkv (fun c hc => hc.elim), hvs.wrote hw hlv (fun c hc => by omega), fun b hb e => ?_⟩
  obtain ⟨g, cap, rfl, hat⟩ := hp
  have hb : g = b := Option.some.inj hb
  subst hb
  rcases hat with h1 | h1
  · exact h.ne g h1 e
  · have := (h.vs.low g e).2; omega
theorem MpSt.val {D : Nat} {S : List VR} {i n : Nat} {kv lv lv' : Value} {w w1 w2 : World} (h : MpSt D S (i + 1) i kv lv w) (hi : i < S.length) (hown : EVal.Own 25 (D + 1) (fun b => D + 1 ≤ b ∧ kv.ownBlock ≠ some b) w1 ((S.take i).map (·.2) ++ [S[i].2]) lv')
    (hg : w.grownBy w1 lv.ownBlock) (hp : Pushed lv n w.heap.size lv') (hw : Wrote D (.cells #[.int .i64 5, .bool false, .int .i64 0, .string ⟨#[]⟩, lv', kv] 25 (0, 0)) w1 w2) : MpSt D S (i + 1) (i + 1) kv lv' w2 := by
  have hk : (S.take (i + 1)).map (·.2) = (S.take i).map (·.2) ++ [S[i].2] := by rw [List.take_succ_eq_append_getElem hi, List.map_append]; rfl
  have hlv := ownBlock_low hown (show D < D + 1 by omega)
  have hkv := ownBlock_low h.ks (show D < D + 1 by omega)
  refine ⟨hw.at_, (h.ks.kept hg ?_ fun b hb => hb.elim).wrote hw hkv (fun c hc => hc.elim), by rw [hk]; exact hown.wrote hw hlv (fun c hc => by omega), fun b hb e => ?_⟩
  · cases hl : kv.ownBlock with
    | none => exact .inl rfl
    | some b => exact .inr fun e => h.ne b hl e.symm
  · obtain ⟨g, cap, rfl, hat⟩ := hp
    have e : g = b := Option.some.inj e
    subst e
    rcases hat with h1 | h1
    · exact h.ne g hb h1
    · have := (h.ks.low g hb).2; omega

def MapPost (L : List VR) (w : World) (e : Ending) (w' : World) : Prop :=
  ∃ v, e = .returned (.tuple #[v, .int .i64 ((mapE L : Nat) : Int)]) ∧ VAt w' v (mapF L) ∧ Below w.heap.size w w'
def EnRel (w1 : World) (L : List VR) (f : Nat) (t16 : Value) (wr : World) : Prop :=
  ∃ i : Nat, t16 = .int .i64 (i : Nat) ∧ i ≤ L.length ∧ f = L.length - i ∧ entTo [] L = entTo (L.take i) (L.drop i) ∧ Below w1.heap.size w1 wr
def MpRel (w3 : World) (S : List VR) (f : Nat) (t34 : Value) (wr : World) : Prop :=
  ∃ (i : Nat) (kv lv : Value), t34 = .int .i64 (i : Nat) ∧ i ≤ S.length ∧ f = S.length - i ∧ MpSt w3.heap.size S i i kv lv wr ∧ Below w3.heap.size w3 wr
theorem map_fail {L : List VR} {n : Nat} {w w' : World} (h : mapE L = n) (hn : n ≠ 0) (hb : Below w.heap.size w w') {e : Ending} (he : e = .returned (.tuple #[.agg #[.int .i64 0, .bool false, .int .i64 0, .string ⟨#[]⟩, .slice none 0 0, .slice none 0 0], .int .i64 ((n : Nat) : Int)])) : MapPost L w e w' :=
  ⟨_, by rw [h]; exact he, by unfold mapF; rw [if_neg (by omega)]; exact zero_at _, hb⟩

set_option maxRecDepth 100000 in
set_option maxHeartbeats 6400000 in
theorem vmap_any (L : List VR) (v : Value) (B : Nat → Prop) (hl : L.length ≤ 9223372036854775807) (hwf : ∀ x ∈ L, x.2.wf) (hsz : ∀ x ∈ L, x.1.size ≤ 9223372036854775807) (w : World) (h : EVar.Row B w L v) : Calls Tryz.prog 21 #[v] w (MapPost L w) := by
  obtain ⟨ao, cap, rfl⟩ := h.form
  have H := Lib.hid (h.lt.mono (B' := fun b => b < w.heap.size) fun b hb => hb.2)
  have HWF := Lib.hid hwf
  have HSZ := Lib.hid hsz
  obtain ⟨W1, hW1⟩ : ∃ W1, w.alloc (.cells #[.int .i64 0, .bool false, .int .i64 0, .string ⟨#[]⟩, .slice none 0 0, .slice none 0 0] 25 (0, 0)) = W1 := ⟨_, rfl⟩
  have hk1 : W1.heap[w.heap.size]? = some (.cells #[.int .i64 0, .bool false, .int .i64 0, .string ⟨#[]⟩, .slice none 0 0, .slice none 0 0] 25 (0, 0)) := by rw [← hW1]; exact hp_new rfl
  have HB1 : Hid (Below w.heap.size w W1) := by unfold Hid; rw [← hW1]; exact (Below.refl _ w).alloc (Nat.le_refl _) _
  have HLT : Hid (w.heap.size < W1.heap.size) := (Array.getElem?_eq_some_iff.1 hk1).1
  have HK1 : Hid (∀ W, Below W1.heap.size W1 W → W.heap[w.heap.size]? = some (.cells #[.int .i64 0, .bool false, .int .i64 0, .string ⟨#[]⟩, .slice none 0 0, .slice none 0 0] 25 (0, 0))) := fun W hW => (hW.block _ HLT.out).trans hk1
  have HM : Hid (mapE L = if 1024 < L.length then 3 else entTo [] L) := rfl
  clear h hk1 hwf hsz
  by_cases h1024 : 1024 < L.length
  · have t1 : (1024 : Int) < (L.length : Int) := by omega
    have HN : Hid (mapE L = 3) := by unfold Hid; rw [HM.out, if_pos h1024]
    have hk := HK1.out W1 (Below.refl _ _)
    have HKK := Lib.hid hk
    clear h1024 HM hk
    as_aux_lemma =>
    go_enter Tryz.func21, Tryz.ntmps21
    go_wp2_with (refine wpList_store_row rfl 25 _ _ rfl w.heap.size rfl 25 _ HKK.out (.agg #[.int .i64 0, .bool false, .int .i64 0, .string ⟨#[]⟩, .slice none 0 0, .slice none 0 0]) rfl (by kernel_rfl) rfl rfl ?_)
    intro w7 hw7
    have HW7 := Lib.hid hw7
    have HB7 := Lib.hid (HB1.out.trans (hw7.below (Nat.le_refl _)))
    clear hw7
    go_wp2_with fail
    exact bodyPost_ret (results_row_tmp rfl _ _ w.heap.size 25 _ (0, 0) _ rfl HW7.out.at_ Tryz.underlying25 rfl (by kernel_rfl)) rfl (map_fail HN.out (by decide) HB7.out rfl)
  · have t1 : ¬ ((1024 : Int) < (L.length : Int)) := by omega
    have hl24 : L.length ≤ 1024 := by omega
    have HM2 : Hid (mapE L = entTo [] L) := by unfold Hid; rw [HM.out, if_neg h1024]
    clear h1024 HM
    go_enter Tryz.func21, Tryz.ntmps21
    go_wp2_with fail
    clear hW1
    go_loopg [16] L.length (EnRel W1 L)
    case atStart => exact ⟨0, rfl, Nat.zero_le _, rfl, rfl, Below.refl _ _⟩
    case round =>
      obtain ⟨i, rfl, hi, rfl, hen, hbel⟩ := hrel
      have HEN := Lib.hid hen
      have HB2 := Lib.hid hbel
      have HBW := Lib.hid (HB1.out.trans (hbel.mono HB1.out.size))
      have HKR := Lib.hid (HK1.out wr hbel)
      clear hen hbel
      by_cases hlt : i < L.length
      · have hii : (i : Int) < (L.length : Int) := by omega
        have EN := Lib.hid (entry_any L i hlt _ _ hl HWF.out wr (H.out.below HBW.out))
        have HST : Hid (entTo [] L = if entF (L.take i) L[i] ≠ 0 then entF (L.take i) L[i] else entTo (L.take (i + 1)) (L.drop (i + 1))) := by
          unfold Hid
          rw [HEN.out, List.drop_eq_getElem_cons hlt, entTo_step, List.take_succ_eq_append_getElem hlt]
        generalize entF (L.take i) L[i] = en at *
        as_aux_lemma =>
        go_wp2_with fail
        refine EN.out.mono ?_
        rintro e w3 ⟨rfl, hb3⟩
        have HB3 := Lib.hid (HB2.out.trans (hb3.mono HB2.out.size))
        have HBW3 := Lib.hid (HB1.out.trans (HB3.out.mono HB1.out.size))
        have HKR3 := Lib.hid (HK1.out w3 HB3.out)
        clear hb3 EN
        by_cases he : en = 0
        · have t3b : ((en : Int) == 0) = true := by rw [he]; rfl
          have t3 : ((en : Int) != 0) = false := by rw [he]; rfl
          have HN : Hid (entTo [] L = entTo (L.take (i + 1)) (L.drop (i + 1))) := by unfold Hid; rw [HST.out, if_neg (fun h => h he)]
          clear he HST
          go_wp2_with fail
          go_roundg (L.length - (i + 1))
          case measure => omega
          case rel => exact ⟨i + 1, by go_num, by omega, rfl, HN.out, HB3.out⟩
        · have t3b : ((en : Int) == 0) = false := by rw [beq_eq_false_iff_ne]; omega
          have t3 : ((en : Int) != 0) = true := by simp [bne, t3b]
          have HN : Hid (mapE L = en) := by unfold Hid; rw [HM2.out, HST.out, if_pos he]
          have HNE := Lib.hid he
          clear he HST
          go_wp2_with (refine wpList_store_row rfl 25 _ _ rfl w.heap.size rfl 25 _ HKR3.out (.agg #[.int .i64 0, .bool false, .int .i64 0, .string ⟨#[]⟩, .slice none 0 0, .slice none 0 0]) rfl (by kernel_rfl) rfl rfl ?_)
          intro w7 hw7
          have HW7 := Lib.hid hw7
          have HB7 := Lib.hid (HBW3.out.trans (hw7.below (Nat.le_refl _)))
          clear hw7
          go_wp2_with fail
          exact bodyPost_ret (results_row_tmp rfl _ _ w.heap.size 25 _ (0, 0) _ rfl HW7.out.at_ Tryz.underlying25 rfl (by kernel_rfl)) rfl (map_fail HN.out HNE.out HB7.out rfl)
      · have hii : ¬ (i : Int) < (L.length : Int) := by omega
        have he : i = L.length := by omega
        have HM0 : Hid (mapE L = 0) := by unfold Hid; rw [HM2.out, HEN.out, he, List.drop_length, List.take_length]; rfl
        have hiff := (mapE_iff L).1 HM0.out
        have HNOD := Lib.hid hiff.2.2
        have HFIT : Hid (∀ x ∈ L, x.2.fit) := fun x hx => fit_valid (hiff.2.1 x hx).2.1
        have CL := Lib.hid (vclonel_any L _ _ (by omega) wr (H.out.below HBW.out))
        clear he hiff HEN
        as_aux_lemma =>
        go_wp2_with fail
        refine CL.out.mono ?_
        rintro e w2 ⟨r, rfl, hr, hb2⟩
        obtain ⟨ro, rc, rfl⟩ := hr.form
        have SR := Lib.hid (sortv_row wr w2 _ _ L (by omega) HSZ.out hr hb2 HNOD.out)
        clear hr hb2 CL
        go_wp2_with fail
        refine SR.out.mono ?_
        rintro e w3 ⟨rfl, hs, hb3⟩
        have HSR := Lib.hid hs
        have HB3 := Lib.hid (HB2.out.trans (hb3.mono HB2.out.size))
        have hlen : (sortN nmR L).length = L.length := (sortN_perm (nm := nmR) L).length_eq
        have HF2 : Hid (∀ x ∈ sortN nmR L, x.2.fit) := fun x hx => HFIT.out x ((sortN_perm (nm := nmR) L).mem_iff.1 hx)
        have HMF : Hid (mapF L = mapT (sortN nmR L)) := by unfold Hid mapF; rw [if_pos HM0.out]
        rw [← hlen] at HSR hl24 ⊢
        have HLEN := Lib.hid hlen
        clear hs hb3 SR hlen HFIT HNOD
        generalize sortN nmR L = S at *
        have HREL0 : Hid (MpRel w3 S S.length (.int .i64 ((0 : Nat) : Int)) (w3.alloc (.cells #[.int .i64 5, .bool false, .int .i64 0, .string ⟨#[]⟩, .slice none 0 0, .slice none 0 0] 25 (0, 0)))) := by
          refine ⟨0, _, _, rfl, Nat.zero_le _, rfl, ⟨hp_new rfl, .nil, .nil, fun b hb => by simp [Value.ownBlock] at hb⟩, (Below.refl _ w3).alloc (Nat.le_refl _) _⟩
        obtain ⟨iV, hiV, hzV, hnV, hyV⟩ := Tryz.vinfoV'
        have HI := Lib.hid hiV
        obtain ⟨i9, hi9, hz9, hn9, hy9⟩ := Tryz.vinfo9'
        have HI9 := Lib.hid hi9
        clear hiV hi9
        go_wp2_with fail
        go_loopg [34] S.length (MpRel w3 S)
        case atStart => exact HREL0.out
        case round =>
          obtain ⟨i, kv, lv, rfl, hi, rfl, hst, hbel⟩ := hrel
          have HST := Lib.hid hst
          have HB4 := Lib.hid hbel
          have HBX := Lib.hid (HB3.out.trans (hbel.mono HB3.out.size))
          obtain ⟨ko0, kc0, hkv⟩ := hst.ks.form
          obtain ⟨lo0, lc0, hlv⟩ := hst.vs.form
          clear hst hbel HREL0
          by_cases hlt : i < S.length
          · have hii : (i : Int) < (S.length : Int) := by omega
            obtain ⟨bs, os, ce, rfl, _, hbs, hce0, hvc⟩ := HSR.out.at hlt
            have hce : ∀ j u, ce[j]? = some u → wr.cell? ⟨bs, os + i * 7 + j, none⟩ = some u := fun j u hu => (HB4.out.cell (p := ⟨bs, os + i * 7 + j, none⟩) hbs).trans (hce0 j u hu)
            obtain ⟨lo, lc, ko, kc, rfl, hva⟩ := evar_seven hvc
            have e0 : wr.cell? ⟨bs, os + i * 7 + 0, none⟩ = _ := hce 0 _ rfl
            have e1 : wr.cell? ⟨bs, os + i * 7 + 1, none⟩ = _ := hce 1 _ rfl
            have e2 : wr.cell? ⟨bs, os + i * 7 + 2, none⟩ = _ := hce 2 _ rfl
            have e3 : wr.cell? ⟨bs, os + i * 7 + 3, none⟩ = _ := hce 3 _ rfl
            have e4 : wr.cell? ⟨bs, os + i * 7 + 4, none⟩ = _ := hce 4 _ rfl
            have e5 : wr.cell? ⟨bs, os + i * 7 + 5, none⟩ = _ := hce 5 _ rfl
            have e6 : wr.cell? ⟨bs, os + i * 7 + 6, none⟩ = _ := hce 6 _ rfl
            rw [Nat.add_zero] at e0
            have CCW : Hid (∀ W, Below w3.heap.size w3 W → Calls Tryz.prog 48 #[.agg #[.int .i64 S[i].2.kind, .bool S[i].2.bool, .int .i64 S[i].2.int, .string S[i].2.str, .slice lo S[i].2.list.length lc, .slice ko S[i].2.keys.length kc]] W fun e w' => ∃ u, e = .returned u ∧ VAtB (fun q => W.heap.size ≤ q) w' u S[i].2 ∧ Below W.heap.size W w') := fun W hW => vclone_any S[i].2 (HF2.out _ (List.getElem_mem hlt)) _ W (hva.below hW).at_
            have HKEY := Lib.hid (fun (w0 w1 w2 : World) (kv kv' lv : Value) (n : Nat) (h : MpSt w3.heap.size S i i kv lv w0) => MpSt.key (n := n) (kv' := kv') (w1 := w1) (w2 := w2) h hlt)
            have HVAL := Lib.hid (fun (w0 w1 w2 : World) (kv lv lv' : Value) (n : Nat) (h : MpSt w3.heap.size S (i + 1) i kv lv w0) => MpSt.val (n := n) (lv' := lv') (w1 := w1) (w2 := w2) h hlt)
            have HTK : Hid (((S.take i).map (·.1)).length = i) := by unfold Hid; rw [List.length_map, List.length_take]; omega
            have HTL : Hid (((S.take i).map (·.2)).length = i) := by unfold Hid; rw [List.length_map, List.length_take]; omega
            clear hce hce0 hvc hva HSR HF2
            generalize S[i].1 = nm at *
            generalize S[i].2 = x at *
            have hba : Below wr.heap.size wr ((wr.alloc (.cells #[.string nm, .int .i64 x.kind, .bool x.bool, .int .i64 x.int, .string x.str, .slice lo x.list.length lc, .slice ko x.keys.length kc] 55 (0, 0))).alloc (.cells #[.string nm] 9 (0, 0))) := ((Below.refl _ wr).alloc (Nat.le_refl _) _).alloc (by simp) _
            have hzD : w3.heap.size < wr.heap.size := (Array.getElem?_eq_some_iff.1 HST.out.blk).1
            have HA := Lib.hid (HST.out.below hba)
            have HK9 : Hid (((wr.alloc (.cells #[.string nm, .int .i64 x.kind, .bool x.bool, .int .i64 x.int, .string x.str, .slice lo x.list.length lc, .slice ko x.keys.length kc] 55 (0, 0))).alloc (.cells #[.string nm] 9 (0, 0))).heap[wr.heap.size]? = some (.cells #[.string nm, .int .i64 x.kind, .bool x.bool, .int .i64 x.int, .string x.str, .slice lo x.list.length lc, .slice ko x.keys.length kc] 55 (0, 0))) := (hp_old (by simp)).trans (hp_new rfl)
            have HBA := Lib.hid hba
            have HSA : Hid (((wr.alloc (.cells #[.string nm, .int .i64 x.kind, .bool x.bool, .int .i64 x.int, .string x.str, .slice lo x.list.length lc, .slice ko x.keys.length kc] 55 (0, 0))).alloc (.cells #[.string nm] 9 (0, 0))).heap.size = wr.heap.size + 2) := by unfold Hid; simp
            rw [HTK.out] at hkv
            rw [HTL.out] at hlv
            have ck : wr.cell? ⟨w3.heap.size, 5, none⟩ = some kv := cell_of_blk HST.out.blk 5
            have HKLOW : Hid (∀ q, kv.ownBlock = some q → w3.heap.size + 1 ≤ q ∧ q < wr.heap.size) := fun q e => HST.out.ks.low q e
            have HLLOW : Hid (∀ q, lv.ownBlock = some q → w3.heap.size + 1 ≤ q ∧ q < wr.heap.size) := fun q e => HST.out.vs.low q e
            clear hba HST
            subst hkv hlv
            as_aux_lemma =>
            go_wp2_with (at_builtin; refine wpList_own_push (E := EStr) rfl _ _ 23 rfl (w3.heap.size + 1) 9 i9 _ 16 Tryz.underlying23 HI9.out hz9 hn9 hy9 rfl _ (.slice ko0 i kc0) rfl HA.out.ks nm [.string nm] rfl (wr.heap.size + 1) (0, 0) (hp_new (by simp)) rfl (by rw [HTK.out]; unfold maxLen; omega) (by rw [HTK.out]; omega) (by simp; omega) ?_)
            intro v6 w6 hown hgrow hpu
            obtain ⟨g6, p6, hv6⟩ := hpu.form
            subst hv6
            rw [← List.map_take] at hown
            have hg6 : ∀ q, q < wr.heap.size + 2 → q < w3.heap.size + 1 ∨ wr.heap.size ≤ q → w6.heap[q]? = ((wr.alloc (.cells #[.string nm, .int .i64 x.kind, .bool x.bool, .int .i64 x.int, .string x.str, .slice lo x.list.length lc, .slice ko x.keys.length kc] 55 (0, 0))).alloc (.cells #[.string nm] 9 (0, 0))).heap[q]? := fun q hq hq2 => hgrow.block q (by rw [HSA.out]; exact hq) (fun e => by have := HKLOW.out q e.symm; omega)
            have hD6 := (hg6 w3.heap.size (by omega) (.inl (by omega))).trans HA.out.blk
            have h96 := (hg6 wr.heap.size (by omega) (.inr (Nat.le_refl _))).trans HK9.out
            have c65 : w6.cell? ⟨w3.heap.size, 5, none⟩ = some (.slice ko0 i kc0) := cell_of_blk hD6 5
            have f65 : w6.frozen? ⟨w3.heap.size, 5, none⟩ = false := free_of_blk hD6 5
            have hwr5 := wrote_setCell hD6 5 (.slice (some ⟨g6, 0, none⟩) (i + 1) p6)
            obtain ⟨w5, hw5⟩ : ∃ w5, w6.setCell ⟨w3.heap.size, 5, none⟩ (.slice (some ⟨g6, 0, none⟩) (i + 1) p6) = w5 := ⟨_, rfl⟩
            rw [hw5] at hwr5
            have HST := Lib.hid (HKEY.out _ w6 w5 _ _ (Value.slice lo0 i lc0) i HA.out hown hgrow (by rw [HSA.out]; exact hpu) hwr5)
            have HK95 := Lib.hid ((hwr5.block wr.heap.size (by omega)).trans h96)
            have hzw6 : wr.heap.size + 2 ≤ w6.heap.size := by have := hgrow.size; rw [HSA.out] at this; exact this
            have HZ9 : Hid (wr.heap.size < w5.heap.size) := by unfold Hid; rw [hwr5.size]; omega
            have HZD : Hid (w3.heap.size < w5.heap.size) := by have := HZ9.out; unfold Hid; omega
            have HB5 : Hid (Below w3.heap.size w3 w5) := ((HB4.out.trans (HBA.out.mono HB4.out.size)).trans (below_grown hgrow (by rw [HSA.out]; omega) (fun q e => by have := (HKLOW.out q e).1; omega))).trans (hwr5.below (Nat.le_refl _))
            have HBR5 : Hid (∀ q, q < wr.heap.size → q ≠ w3.heap.size → q < w3.heap.size + 1 → w5.heap[q]? = wr.heap[q]?) := fun q hq hne hlt2 => (hwr5.block q hne).trans ((hg6 q (by omega) (.inl hlt2)).trans (HBA.out.block q hq))
            have CCW5 : Hid (∀ W, Below w5.heap.size w5 W → Calls Tryz.prog 48 #[.agg #[.int .i64 x.kind, .bool x.bool, .int .i64 x.int, .string x.str, .slice lo x.list.length lc, .slice ko x.keys.length kc]] W fun e w' => ∃ u, e = .returned u ∧ VAtB (fun q => W.heap.size ≤ q) w' u x ∧ Below W.heap.size W w') := fun W hW => CCW.out W (HB5.out.trans (hW.mono HB5.out.size))
            clear hown hgrow hpu hg6 hD6 h96 hwr5 HKEY HA HK9 CCW
            go_upto_region 17 with fail
            clear hw5 c65 f65 ck e0 e1 e2 e3 e4 e5 e6
            have HKD := Lib.hid HST.out.blk
            have HS : Hid (∀ W' : World, W'.heap[w3.heap.size]? = w5.heap[w3.heap.size]? → W'.heap[wr.heap.size]? = w5.heap[wr.heap.size]? → W'.cell? ⟨w3.heap.size, 4, none⟩ = some (Value.slice lo0 i lc0) ∧ W'.cell? ⟨wr.heap.size, 1, none⟩ = some (.int .i64 x.kind) ∧ W'.cell? ⟨wr.heap.size, 2, none⟩ = some (.bool x.bool) ∧ W'.cell? ⟨wr.heap.size, 3, none⟩ = some (.int .i64 x.int) ∧ W'.cell? ⟨wr.heap.size, 4, none⟩ = some (.string x.str) ∧ W'.cell? ⟨wr.heap.size, 5, none⟩ = some (.slice lo x.list.length lc) ∧ W'.cell? ⟨wr.heap.size, 6, none⟩ = some (.slice ko x.keys.length kc)) := fun W' h1 h2 => by
              have k1 := h1.trans HKD.out
              have k2 := h2.trans HK95.out
              exact ⟨cell_of_blk k1 4, cell_of_blk k2 1, cell_of_blk k2 2, cell_of_blk k2 3, cell_of_blk k2 4, cell_of_blk k2 5, cell_of_blk k2 6⟩
            have HDB : Hid (Below w5.heap.size w5 w5.drew) := (Below.refl _ _).drew
            have CC : Hid (∀ W, Below w5.heap.size w5 W → Calls Tryz.prog 48 #[.agg #[.int .i64 x.kind, .bool x.bool, .int .i64 x.int, .string x.str, .slice lo x.list.length lc, .slice ko x.keys.length kc]] W fun e w' => ∃ u, e = .returned u ∧ VAtB (fun q => W.heap.size ≤ q) w' u x ∧ Below W.heap.size W w') := fun W hW => CCW5.out W hW
            have HFIN : Hid (∀ (w6 : World) (lo6 ko6 : Option Addr) (lc6 kc6 : Nat), Below w5.heap.size w5 w6 → VAtB (fun q => w5.drew.heap.size ≤ q) w6 (.agg #[.int .i64 x.kind, .bool x.bool, .int .i64 x.int, .string x.str, .slice lo6 x.list.length lc6, .slice ko6 x.keys.length kc6]) x → ∀ W7, w6.alloc (.cells #[.int .i64 x.kind, .bool x.bool, .int .i64 x.int, .string x.str, .slice lo6 x.list.length lc6, .slice ko6 x.keys.length kc6] 25) = W7 →
                EVal.Own 25 (w3.heap.size + 1) (fun b => w3.heap.size + 1 ≤ b ∧ (Value.slice (some ⟨g6, 0, none⟩) (i + 1) p6).ownBlock ≠ some b) W7 ((S.take i).map (·.2)) (Value.slice lo0 i lc0) ∧
                EVal.R (fun b => (w3.heap.size + 1 ≤ b ∧ (Value.slice (some ⟨g6, 0, none⟩) (i + 1) p6).ownBlock ≠ some b) ∧ (Value.slice lo0 i lc0).ownBlock ≠ some b) W7 x [.int .i64 x.kind, .bool x.bool, .int .i64 x.int, .string x.str, .slice lo6 x.list.length lc6, .slice ko6 x.keys.length kc6] ∧ w3.heap.size + 1 ≤ W7.heap.size ∧
                ∀ (v8 : Value) (w8 : World), EVal.Own 25 (w3.heap.size + 1) (fun b => w3.heap.size + 1 ≤ b ∧ (Value.slice (some ⟨g6, 0, none⟩) (i + 1) p6).ownBlock ≠ some b) w8 ((S.take i).map (·.2) ++ [x]) v8 → W7.grownBy w8 (Value.slice lo0 i lc0).ownBlock → Pushed (Value.slice lo0 i lc0) ((S.take i).map (·.2)).length W7.heap.size v8 →
                  (w8.cell? ⟨w3.heap.size, 4, none⟩ = some (Value.slice lo0 i lc0) ∧ w8.cell? ⟨wr.heap.size, 1, none⟩ = some (.int .i64 x.kind) ∧ w8.cell? ⟨wr.heap.size, 2, none⟩ = some (.bool x.bool) ∧ w8.cell? ⟨wr.heap.size, 3, none⟩ = some (.int .i64 x.int) ∧ w8.cell? ⟨wr.heap.size, 4, none⟩ = some (.string x.str) ∧ w8.cell? ⟨wr.heap.size, 5, none⟩ = some (.slice lo x.list.length lc) ∧ w8.cell? ⟨wr.heap.size, 6, none⟩ = some (.slice ko x.keys.length kc)) ∧ w8.cell? ⟨w3.heap.size, 4, none⟩ = some (Value.slice lo0 i lc0) ∧ w8.frozen? ⟨w3.heap.size, 4, none⟩ = false ∧ MpRel w3 S (S.length - (i + 1)) (.int .i64 ((i + 1 : Nat) : Int)) (w8.setCell ⟨w3.heap.size, 4, none⟩ v8)) := by
              intro w6 lo6 ko6 lc6 kc6 hb6 hx6 W7 hW7
              have hb7 : Below w6.heap.size w6 W7 := by rw [← hW7]; exact (Below.refl _ w6).alloc (Nat.le_refl _) _
              have hb57 : Below w5.heap.size w5 W7 := hb6.trans (hb7.mono hb6.size)
              have hst7 := HST.out.below hb57
              have hs57 := hb57.size
              have hz9 := HZ9.out
              refine ⟨hst7.vs, ?_, by omega, fun v8 w8 ho hg hp => ?_⟩
              · obtain ⟨cs, e, hc⟩ := hx6
                have e3 : cs = _ := (List.toArray_inj (Value.agg.inj e)).symm
                subst e3
                refine EVal.mono (ElemK.R.below (E := EVal) (show EVal.R _ w6 x _ from hc) hb7) fun q hq => ⟨⟨?_, fun e => ?_⟩, fun e => ?_⟩
                · have : w5.heap.size ≤ q := hq
                  omega
                · have : w5.heap.size ≤ q := hq
                  have h2 := (HST.out.ks.low q e).2
                  omega
                · have : w5.heap.size ≤ q := hq
                  have h2 := (HLLOW.out q e).2
                  omega
              · have hg8 : ∀ q, q < w5.heap.size → q < w3.heap.size + 1 ∨ wr.heap.size ≤ q → w8.heap[q]? = w5.heap[q]? := fun q hq hq2 => (hg.block q (by omega) (fun e => by have := HLLOW.out q e.symm; omega)).trans (hb57.block q hq)
                have hD8 := (hg8 w3.heap.size HZD.out (.inl (by omega))).trans HKD.out
                have hw := wrote_setCell hD8 4 v8
                refine ⟨HS.out w8 (hg8 _ HZD.out (.inl (by omega))) (hg8 _ HZ9.out (.inr (Nat.le_refl _))), cell_of_blk hD8 4, free_of_blk hD8 4, i + 1, _, _, rfl, by omega, rfl, HVAL.out W7 w8 _ _ (Value.slice lo0 i lc0) v8 _ hst7 ho hg hp hw, ?_⟩
                exact ((HB5.out.trans (hb57.mono HB5.out.size)).trans (below_grown hg (by omega) (fun q e => by have := (HLLOW.out q e).1; omega))).trans (hw.below (Nat.le_refl _))
            clear HVAL HKLOW CCW5
            as_aux_lemma =>
            refine wp_region_Z (S := fun w' : World => w'.cell? ⟨w3.heap.size, 4, none⟩ = some (.slice lo0 i lc0) ∧ w'.cell? ⟨wr.heap.size, 1, none⟩ = some (.int .i64 x.kind) ∧ w'.cell? ⟨wr.heap.size, 2, none⟩ = some (.bool x.bool) ∧ w'.cell? ⟨wr.heap.size, 3, none⟩ = some (.int .i64 x.int) ∧ w'.cell? ⟨wr.heap.size, 4, none⟩ = some (.string x.str) ∧ w'.cell? ⟨wr.heap.size, 5, none⟩ = some (.slice lo x.list.length lc) ∧ w'.cell? ⟨wr.heap.size, 6, none⟩ = some (.slice ko x.keys.length kc)) 7 (by kernel_rfl) (HS.out _ rfl rfl) (fun hHeld => ?_)
            refine wpAnyZ_takeL (i := 0) (v := ?_) rfl (by kernel_rfl) (by kernel_rfl) (by kernel_rfl) (by kernel_rfl) (fun _ _ _ h => h) (Or.inl ⟨by rfl, ?_⟩) (by assumption) ?_
            rotate_left
            · (intro w hSw; (try dsimp only at hSw); go_simp; try with_reducible rfl)
            try simp only [Act.put, List.setIfInBounds_toArray, List.set_cons_zero, List.set_cons_succ]
            refine wpAnyZ_takeL (i := 1) (v := ?_) rfl (by kernel_rfl) (by kernel_rfl) (by kernel_rfl) (by kernel_rfl) (fun _ _ _ h => h) (Or.inl ⟨by rfl, ?_⟩) (by assumption) ?_
            rotate_left
            · (intro w hSw; (try dsimp only at hSw); go_simp; try with_reducible rfl)
            try simp only [Act.put, List.setIfInBounds_toArray, List.set_cons_zero, List.set_cons_succ]
            refine wpAnyZ_takeL (i := 2) (v := ?_) rfl (by kernel_rfl) (by kernel_rfl) (by kernel_rfl) (by kernel_rfl) (fun _ _ _ h => h) (Or.inl ⟨by rfl, ?_⟩) (by assumption) ?_
            rotate_left
            · (intro w hSw; (try dsimp only at hSw); go_simp; try with_reducible rfl)
            try simp only [Act.put, List.setIfInBounds_toArray, List.set_cons_zero, List.set_cons_succ]
            refine wpAnyZ_takeL (i := 3) (v := ?_) rfl (by kernel_rfl) (by kernel_rfl) (by kernel_rfl) (by kernel_rfl) (fun _ _ _ h => h) (Or.inl ⟨by rfl, ?_⟩) (by assumption) ?_
            rotate_left
            · (intro w hSw; (try dsimp only at hSw); go_simp; try with_reducible rfl)
            try simp only [Act.put, List.setIfInBounds_toArray, List.set_cons_zero, List.set_cons_succ]
            refine wpAnyZ_oneL (i := 4) (by kernel_rfl) rfl (fun K hK => ?_)
            go_simp
            go_at_call 48
            refine (CC.out w5.drew HDB.out).mono ?_
            rintro e w6 ⟨v6, rfl, hv6, hb6⟩
            obtain ⟨lo6, lc6, ko6, kc6, rfl, hk6, hl6⟩ := hv6.open
            have HX6 := Lib.hid (VAtB.make hk6 hl6)
            have HB6 : Hid (Below w5.heap.size w5 w6) := HDB.out.trans hb6
            clear hv6 hb6 hk6 hl6 CC
            refine hK.out _ _ (fun _ => HS.out w6 (HB6.out.block _ HZD.out) (HB6.out.block _ HZ9.out)) (fun hHeld => ?_)
            replace hHeld := hHeld (by decide)
            clear hK K
            try simp only [Act.put, List.setIfInBounds_toArray, List.set_cons_zero, List.set_cons_succ]
            refine wpAnyZ_oneL (i := 5) (by kernel_rfl) rfl (fun K hK => ?_)
            rw [if_pos (by rfl)]
            refine wp_build1 22 25 (.tmp 49) rfl #[.int .i64 x.kind, .bool x.bool, .int .i64 x.int, .string x.str, .slice lo6 x.list.length lc6, .slice ko6 x.keys.length kc6] iV _ Tryz.underlying22 HI.out hzV 6 hnV (by decide) (by decide) rfl rfl ?_
            refine hK.out _ _ (fun _ => HS.out _ ((hp_old (Nat.lt_of_lt_of_le HZD.out HB6.out.size)).trans (HB6.out.block _ HZD.out)) ((hp_old (Nat.lt_of_lt_of_le HZ9.out HB6.out.size)).trans (HB6.out.block _ HZ9.out))) (fun hHeld => ?_)
            replace hHeld := hHeld (by decide)
            clear hK K
            try simp only [Act.put, List.setIfInBounds_toArray, List.set_cons_zero, List.set_cons_succ]
            obtain ⟨W7, hW7⟩ : ∃ W7, w6.alloc (.cells #[.int .i64 x.kind, .bool x.bool, .int .i64 x.int, .string x.str, .slice lo6 x.list.length lc6, .slice ko6 x.keys.length kc6] 25) = W7 := ⟨_, rfl⟩
            have FIN := Lib.hid (HFIN.out w6 lo6 ko6 lc6 kc6 HB6.out HX6.out W7 hW7)
            have hk7 : W7.heap[w6.heap.size]? = some (.cells #[.int .i64 x.kind, .bool x.bool, .int .i64 x.int, .string x.str, .slice lo6 x.list.length lc6, .slice ko6 x.keys.length kc6] 25 (0, 0)) := by rw [← hW7]; exact hp_new rfl
            rw [hW7] at hHeld ⊢
            clear hW7
            refine wpAnyZ_oneL (i := 6) (by kernel_rfl) rfl (fun K hK => ?_)
            rw [if_pos (by rfl)]
            refine wp_own_push (E := EVal) (.tmp 46) (.tmp 50) 22 rfl (w3.heap.size + 1) 25 iV _ 88 Tryz.underlying22 HI.out hzV hnV hyV rfl _ (.slice lo0 i lc0) rfl FIN.out.1 x [.int .i64 x.kind, .bool x.bool, .int .i64 x.int, .string x.str, .slice lo6 x.list.length lc6, .slice ko6 x.keys.length kc6] FIN.out.2.1 w6.heap.size (0, 0) hk7 rfl (by rw [HTL.out]; unfold maxLen; omega) (by rw [HTL.out]; omega) FIN.out.2.2.1 ?_
            intro v8 w8 hown hgrow hpu
            obtain ⟨g8, p8, hv8⟩ := hpu.form
            have FI2 := Lib.hid (FIN.out.2.2.2 v8 w8 hown hgrow hpu)
            subst hv8
            rw [HTL.out] at FI2
            rw [HTL.out]
            clear hown hgrow hpu FIN hk7
            refine hK.out _ _ (fun _ => FI2.out.1) (fun hHeld => ?_)
            replace hHeld := hHeld (by decide)
            clear hK K
            try simp only [Act.put, List.setIfInBounds_toArray, List.set_cons_zero, List.set_cons_succ]
            refine wpAnyZ_oneL (i := 7) (by kernel_rfl) rfl (fun K hK => ?_)
            go_simp
            refine hK.out _ _ (fun h => absurd h (by decide)) (fun _ => ?_)
            clear hK K
            try simp only [Act.put, List.setIfInBounds_toArray, List.set_cons_zero, List.set_cons_succ]
            obtain ⟨c8, f8, hrel8⟩ := FI2.out.2
            have HREL := Lib.hid hrel8
            clear hrel8 FI2
            refine wpAnyZ_oneL (i := 8) (by kernel_rfl) rfl (fun K hK => ?_)
            go_simp
            refine hK.out _ _ (fun h => absurd h (by decide)) (fun _ => ?_)
            clear hK K
            try simp only [Act.put, List.setIfInBounds_toArray, List.set_cons_zero, List.set_cons_succ]
            refine wpAnyZ_done (by kernel_rfl) ?_ _
            clear c8 f8 hHeld
            generalize w8.setCell ⟨w3.heap.size, 4, none⟩ (.slice (some ⟨g8, 0, none⟩) (i + 1) p8) = w9 at *
            go_wp2_with fail
            go_roundg (S.length - (i + 1))
            case measure => omega
            case rel =>
              have h := HREL.out
              rw [show ((i + 1 : Nat) : Int) = (i : Int) + 1 by omega] at h
              exact h
          · have hii : ¬ (i : Int) < (S.length : Int) := by omega
            have he : i = S.length := by omega
            have hst := HST.out
            rw [he] at hst hkv hlv
            have HV : Hid (EStr.Row (fun q => w3.heap.size ≤ q) wr (S.map (·.1)) kv ∧ EVal.Row (fun q => w3.heap.size ≤ q) wr (S.map (·.2)) lv) := by
              have h1 := hst.ks.row (B' := fun q => w3.heap.size + 1 ≤ q) (fun q hq => hq.elim) (fun q hq => hq)
              have h2 := hst.vs.row (B' := fun q => w3.heap.size + 1 ≤ q) (fun q hq => hq.1) (fun q hq => hq)
              rw [List.take_length] at h1 h2
              exact ⟨h1.mono fun q hq => by omega, h2.mono fun q hq => by omega⟩
            rw [List.take_length, List.length_map] at hkv hlv
            have hk2 := hst.blk
            subst hkv hlv
            have g0 : wr.cell? ⟨w3.heap.size, 0, none⟩ = some (.int .i64 5) := cell_of_blk hk2 0
            have g1 : wr.cell? ⟨w3.heap.size, 1, none⟩ = some (.bool false) := cell_of_blk hk2 1
            have g2 : wr.cell? ⟨w3.heap.size, 2, none⟩ = some (.int .i64 0) := cell_of_blk hk2 2
            have g3 : wr.cell? ⟨w3.heap.size, 3, none⟩ = some (.string ⟨#[]⟩) := cell_of_blk hk2 3
            have g4 : wr.cell? ⟨w3.heap.size, 4, none⟩ = some (.slice lo0 S.length lc0) := cell_of_blk hk2 4
            have g5 : wr.cell? ⟨w3.heap.size, 5, none⟩ = some (.slice ko0 S.length kc0) := cell_of_blk hk2 5
            have HKR := Lib.hid (HK1.out wr HBX.out)
            have HBW := Lib.hid (HB1.out.trans (HBX.out.mono HB1.out.size))
            have hw3 : w.heap.size < w3.heap.size := Nat.lt_of_lt_of_le HLT.out HB3.out.size
            clear hst hk2 he HST
            as_aux_lemma =>
            go_wp2_with (refine wpList_store_row rfl 25 _ _ rfl w.heap.size rfl 25 _ HKR.out (.agg #[.int .i64 5, .bool false, .int .i64 0, .string ⟨#[]⟩, .slice lo0 S.length lc0, .slice ko0 S.length kc0]) rfl (by kernel_rfl) rfl rfl ?_)
            intro w7 hw7
            have HW7 := Lib.hid hw7
            have HB7 := Lib.hid (HBW.out.trans (hw7.below (Nat.le_refl _)))
            have HV7 : Hid (VAt w7 (.agg #[.int .i64 5, .bool false, .int .i64 0, .string ⟨#[]⟩, .slice lo0 S.length lc0, .slice ko0 S.length kc0]) (mapT S)) := by
              obtain ⟨h1, h2⟩ := HV.out
              refine ⟨_, rfl, vcell_mk.2 ⟨_, _, rfl, strs_row (h1.keep (Nat.le_of_eq hw7.size.symm) fun c hc _ => hw7.block c (by omega)), vlist_row (h2.keep (Nat.le_of_eq hw7.size.symm) fun c hc _ => hw7.block c (by omega))⟩⟩
            clear hw7 HV g0 g1 g2 g3 g4 g5
            go_wp2_with fail
            exact bodyPost_ret (results_row_tmp rfl _ _ w.heap.size 25 _ (0, 0) _ rfl HW7.out.at_ Tryz.underlying25 rfl (by kernel_rfl)) rfl ⟨_, by rw [HM0.out] <;> rfl, by rw [HMF.out]; exact HV7.out, HB7.out⟩
end Go.Proofs.YtbndgmbjfgmdnaaGreatDoor
