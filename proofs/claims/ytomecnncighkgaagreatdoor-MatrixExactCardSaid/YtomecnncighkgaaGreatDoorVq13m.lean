/- The walk over value.literal at a list without keys. -/
import Derived.Test.YtomecnncighkgaaGreatDoorVq11m
import Derived.Test.YtomecnncighkgaaGreatDoorVa2
import Derived.Test.YtomecnncighkgaaGreatDoorVa3
import Derived.Test.YtomecnncighkgaaGreatDoorVp1m
namespace Go.Proofs.YtomecnncighkgaaGreatDoor
open Go.RowKit Go.Deep

def LitCalls (t : VT) : Prop := ∀ cs W, Pow W → VCell W t cs → Calls Tryz.prog 75 #[.agg cs.toArray] W fun e w' => e = .returned (.string (bx (litF t))) ∧ Below W.heap.size W w'
def LiRel (W : World) (cs : Array Value) (T : List ByteArray) (f : Nat) (t3 t30 : Value) (wr : World) : Prop :=
  ∃ i : Nat, t30 = .int .i64 (i : Nat) ∧ i ≤ T.length ∧ f = T.length - i ∧ wr.heap[W.heap.size]? = some (.cells cs 46 (0, 0)) ∧ EStr.Own 9 (W.heap.size + 1) (fun _ => False) wr (T.take i) t3 ∧ Below W.heap.size W wr
theorem cat3 (a c : List UInt8) (l : List UInt8) : bx a ++ bx l ++ bx c = bx (a ++ (l ++ c)) := by rw [bx_app, bx_app, List.append_assoc]
theorem Tryz.info9' : ∃ i, Tryz.prog.info? 9 = some i ∧ i.zero = some (.string ByteArray.empty) ∧ i.size = 1 ∧ i.bytes = 16 := info_parts (by kernel_rfl)

set_option maxRecDepth 100000 in
set_option maxHeartbeats 3200000 in
theorem lit_4 (b : Bool) (n : Int) (s : ByteArray) (L : List VT) (ks : List ByteArray) (hl : (litF (.mk 4 b n s L ks)).length ≤ 100000000000) (hn : L.length ≤ 1024) (ih : ∀ x ∈ L, LitCalls x)
    (lo ko : Option Addr) (lc kn kc : Nat) (W : World) (hp : Pow W) (hL : VList W L (.slice lo L.length lc)) : Calls Tryz.prog 75 #[.agg #[.int .i64 4, .bool b, .int .i64 n, .string s, .slice lo L.length lc, .slice ko kn kc]] W fun e w' => e = .returned (.string (bx (litF (.mk 4 b n s L ks)))) ∧ Below W.heap.size W w' := by
  obtain ⟨i9, hi9, hz9, hn9, hy9⟩ := Tryz.info9'
  have HI9 := Lib.hid hi9
  have hsub := litF_sub (b := b) (n := n) (s := s) (k := 4) (L := L) (ks := ks) (.inl rfl) (fun h => by cases h)
  have HRES : Hid (bx [91] ++ bx (joinT (txF 4 ks L)) ++ bx [93] = bx (litF (.mk 4 b n s L ks))) := by unfold Hid; rw [cat3, litF_list (.inl rfl)]; rfl
  have HTL : Hid ((txF 4 ks L).length = L.length) := txF_len (fun h => by cases h)
  have HTG : Hid (∀ i (hi : i < L.length), ((txF 4 ks L).map bx).take i ++ [bx (litF L[i])] = ((txF 4 ks L).map bx).take (i + 1)) := fun i hi => by
    have h := txF_get (k := 4) (ks := ks) (L := L) (fun h => by cases h) hi
    rw [if_neg (by decide)] at h
    have h2 : i < ((txF 4 ks L).map bx).length := by rw [List.length_map, HTL.out]; exact hi
    rw [List.take_succ_eq_append_getElem h2, List.getElem_map]
    congr 2
    exact congrArg bx ((Option.some.inj ((List.getElem?_eq_getElem (by rw [HTL.out]; exact hi)).symm.trans h)).symm)
  have HJL : Hid ((joinT (txF 4 ks L)).length ≤ 140737488355328) := by have := hsub.2; unfold Hid; omega
  have HSZ : Hid ((bx (joinT (txF 4 ks L))).size ≤ 140737488355328) := HJL
  generalize litF (.mk 4 b n s L ks) = res at *
  have HML : Hid (((txF 4 ks L).map bx).length = L.length) := by unfold Hid; rw [List.length_map, HTL.out]
  have HJ : Hid (∀ (v : Value) (w : World), StrsAt w v ((txF 4 ks L).map bx) → Calls Tryz.prog 48 #[v, .string ⟨#[44, 32]⟩] w fun e w' => e = .returned (.string (bx (joinT (txF 4 ks L)))) ∧ Below w.heap.size w w') := fun v w h => joins_any v _ w h HJL.out (by rw [HTL.out]; omega)
  clear hsub HJL hl HTL hi9
  generalize (txF 4 ks L).map bx = T at *
  generalize joinT (txF 4 ks L) = jt at *
  have IH := Lib.hid ih
  have HL := Lib.hid hL
  have HP := Lib.hid hp
  obtain ⟨W1, hW1⟩ : ∃ W1, W.alloc (.cells #[.int .i64 4, .bool b, .int .i64 n, .string s, .slice lo L.length lc, .slice ko kn kc] 46 (0, 0)) = W1 := ⟨_, rfl⟩
  have hs1 : W1.heap.size = W.heap.size + 1 := by rw [← hW1]; simp
  have hk0 : W1.heap[W.heap.size]? = some (.cells #[.int .i64 4, .bool b, .int .i64 n, .string s, .slice lo L.length lc, .slice ko kn kc] 46 (0, 0)) := by rw [← hW1]; exact hp_new rfl
  have HB1 : Hid (Below W.heap.size W W1) := by unfold Hid; rw [← hW1]; exact (Below.refl _ W).alloc (Nat.le_refl _) _
  have d0 : W1.cell? ⟨W.heap.size, 0, none⟩ = some (.int .i64 4) := cell_of_blk hk0 0
  have d4 : W1.cell? ⟨W.heap.size, 4, none⟩ = some (.slice lo L.length lc) := cell_of_blk hk0 4
  have HREL0 : Hid (LiRel W #[.int .i64 4, .bool b, .int .i64 n, .string s, .slice lo L.length lc, .slice ko kn kc] T T.length (.slice none 0 0) (.int .i64 ((0 : Nat) : Int)) W1) := ⟨0, rfl, Nat.zero_le _, rfl, hk0, .nil, HB1.out⟩
  clear hk0 ih hL hp hs1
  go_enter Tryz.func75, Tryz.ntmps75
  go_wp2_with fail
  clear d0 d4 hW1
  go_loopg [3, 30] T.length (LiRel W #[.int .i64 4, .bool b, .int .i64 n, .string s, .slice lo L.length lc, .slice ko kn kc] T)
  case atStart => exact HREL0.out
  case round =>
    obtain ⟨i, rfl, hi, rfl, hk0, ho, hbel⟩ := hrel
    have hTL : (T.take i).length = i := by rw [List.length_take]; omega
    have HTL := Lib.hid hTL
    obtain ⟨vo, vc, hvv⟩ := ho.form
    rw [hTL] at hvv
    subst hvv
    have HO := Lib.hid ho
    have HB := Lib.hid hbel
    have HK0 := Lib.hid hk0
    have HZ0 : Hid (W.heap.size < wr.heap.size) := (Array.getElem?_eq_some_iff.1 hk0).1
    rw [HML.out] at hi
    clear ho hbel hk0 HREL0 HB1 hTL
    by_cases hlt : i < L.length
    · have hii : (i : Int) < (L.length : Int) := by omega
      obtain ⟨bl, off, ce, rfl, hbl, hce, hvc⟩ := (HL.out.below HB.out).at hlt
      obtain ⟨k1, c1, n1, s1, lo1, ln1, lc1, ko1, kn1, kc1, rfl⟩ := vcell_slices0 hvc
      have e0 := hce 0 _ rfl
      have e1 := hce 1 _ rfl
      have e2 := hce 2 _ rfl
      have e3 := hce 3 _ rfl
      have e4 := hce 4 _ rfl
      have e5 := hce 5 _ rfl
      rw [Nat.add_zero] at e0
      obtain ⟨w5, hw5⟩ : ∃ w5, wr.alloc (.cells #[.int .i64 k1, .bool c1, .int .i64 n1, .string s1, .slice lo1 ln1 lc1, .slice ko1 kn1 kc1] 46 (0, 0)) = w5 := ⟨_, rfl⟩
      have hb5 : Below wr.heap.size wr w5 := by rw [← hw5]; exact (Below.refl _ wr).alloc (Nat.le_refl _) _
      have hk5 : w5.heap[wr.heap.size]? = some (.cells #[.int .i64 k1, .bool c1, .int .i64 n1, .string s1, .slice lo1 ln1 lc1, .slice ko1 kn1 kc1] 46 (0, 0)) := by rw [← hw5]; exact hp_new rfl
      have HBW := Lib.hid (HB.out.trans (hb5.mono HB.out.size))
      have hk05 := (hb5.block _ HZ0.out).trans HK0.out
      have g0 : w5.cell? ⟨W.heap.size, 0, none⟩ = some (.int .i64 4) := cell_of_blk hk05 0
      have m0 : w5.cell? ⟨wr.heap.size, 0, none⟩ = some (.int .i64 k1) := cell_of_blk hk5 0
      have m1 : w5.cell? ⟨wr.heap.size, 1, none⟩ = some (.bool c1) := cell_of_blk hk5 1
      have m2 : w5.cell? ⟨wr.heap.size, 2, none⟩ = some (.int .i64 n1) := cell_of_blk hk5 2
      have m3 : w5.cell? ⟨wr.heap.size, 3, none⟩ = some (.string s1) := cell_of_blk hk5 3
      have m4 : w5.cell? ⟨wr.heap.size, 4, none⟩ = some (.slice lo1 ln1 lc1) := cell_of_blk hk5 4
      have m5 : w5.cell? ⟨wr.heap.size, 5, none⟩ = some (.slice ko1 kn1 kc1) := cell_of_blk hk5 5
      have CC := Lib.hid (IH.out _ (List.getElem_mem hlt) _ w5 (HP.out.below HBW.out) (VCell.below hb5 _ _ hvc))
      have HTK := Lib.hid (HTG.out i hlt)
      have HK5 := Lib.hid hk05
      have HO5 := Lib.hid (HO.out.below hb5)
      have HZ5 : Hid (W.heap.size < w5.heap.size) := Nat.lt_of_lt_of_le HZ0.out hb5.size
      have HOL : Hid (∀ q, (Value.slice vo i vc).ownBlock = some q → W.heap.size + 1 ≤ q) := fun q e => (HO.out.low q e).1
      clear hce hvc hb5 hk5 hk05 HO HB HTG HJ
      generalize litF L[i] = x at *
      as_aux_lemma =>
      go_wp2_with fail
      clear hw5 e0 e1 e2 e3 e4 e5
      refine CC.out.mono ?_
      rintro e w6 ⟨rfl, hb6⟩
      have HB6 := Lib.hid hb6
      have HO6 := Lib.hid ((HO5.out.below hb6).below ((Below.refl w6.heap.size w6).alloc (Nat.le_refl _) (.cells #[.string (bx x)] 9 (0, 0))))
      have hz6 := hb6.size
      have hz5 := HZ5.out
      clear hb6 CC m0 m1 m2 m3 m4 m5 g0
      go_wp2_with (at_builtin; refine wpList_own_push (E := EStr) rfl _ _ 44 rfl (W.heap.size + 1) 9 i9 _ 16 Tryz.underlying44 HI9.out hz9 hn9 hy9 rfl _ (.slice vo i vc) rfl HO6.out (bx x) [.string (bx x)] rfl w6.heap.size (0, 0) (hp_new rfl) rfl (by rw [HTL.out]; unfold maxLen; omega) (by rw [HTL.out]; omega) (by simp; omega) ?_)
      intro v8 w8 hown hgrow hpu
      obtain ⟨g8, p8, rfl⟩ := hpu.form
      rw [HTK.out] at hown
      have hba := (Below.refl w6.heap.size w6).alloc (Nat.le_refl _) (.cells #[.string (bx x)] 9 (0, 0))
      have hbg : Below (W.heap.size + 1) (w6.alloc (.cells #[.string (bx x)] 9 (0, 0))) w8 := below_grown hgrow (by simp; omega) (fun q e => HOL.out q e)
      have hb8 : Below (W.heap.size + 1) w5 w8 := ((HB6.out.mono (by omega)).trans (hba.mono (by omega))).trans hbg
      have HK8 := Lib.hid ((hb8.block W.heap.size (by omega)).trans HK5.out)
      have HB8 : Hid (Below W.heap.size W w8) := HBW.out.trans (hb8.mono (by omega))
      have HOW := Lib.hid hown
      clear hown hgrow hpu hba hbg hb8 HO6 HO5
      go_wp2_with fail
      go_roundg (T.length - (i + 1))
      case measure => have := HML.out; omega
      case rel => exact ⟨i + 1, by go_num, by have := HML.out; omega, rfl, HK8.out, HOW.out, HB8.out⟩
    · have hii : ¬ (i : Int) < (L.length : Int) := by omega
      have he : i = T.length := by have := HML.out; omega
      have hta : T.take i = T := by rw [he, List.take_length]
      have hst : StrsAt wr (.slice vo i vc) T := by
        have := HO.out.row (B' := fun _ => True) (fun _ _ => trivial) (fun _ _ => trivial)
        rw [hta] at this
        exact strs_row this
      have JC := Lib.hid (HJ.out _ wr hst)
      have c0 : ∀ w', Below wr.heap.size wr w' → w'.cell? ⟨W.heap.size, 0, none⟩ = some (.int .i64 4) := fun w' h => cell_of_blk ((h.block _ HZ0.out).trans HK0.out) 0
      have HC0 := Lib.hid c0
      have hz1 := HSZ.out
      have hz2 : (({ data := #[91] } : ByteArray) ++ bx jt).size ≤ 140737488355329 := by rw [ByteArray.size_append]; show 1 + _ ≤ _; omega
      clear hst hta HJ HO HTG c0 he
      as_aux_lemma =>
      go_wp2_with fail
      refine JC.out.mono ?_
      rintro e w4 ⟨rfl, hb4⟩
      have c0 := HC0.out w4 hb4
      have HB4 : Hid (Below W.heap.size W w4) := HB.out.trans (hb4.mono HB.out.size)
      clear hb4 JC HC0
      go_wp2_with fail
      go_ret
      exact ⟨by rw [← HRES.out] <;> rfl, HB4.out⟩
end Go.Proofs.YtomecnncighkgaaGreatDoor
/- The walk over value.literal at a list with keys. -/
namespace Go.Proofs.YtomecnncighkgaaGreatDoor
open Go.RowKit Go.Deep

theorem quoteF_len (s : List UInt8) : (quoteF s).length ≤ 4 * s.length + 2 := by
  unfold quoteF
  rw [List.length_cons, List.length_append, List.length_singleton]
  have := flat_len s
  omega
theorem item_bx (q l : List UInt8) : bx q ++ ⟨#[58, 32]⟩ ++ bx l = bx (q ++ 58 :: 32 :: l) := cat3 q l [58, 32] |> fun _ => by rw [show (⟨#[58, 32]⟩ : ByteArray) = bx [58, 32] from rfl, bx_app, bx_app, List.append_assoc]; rfl

set_option maxRecDepth 100000 in
set_option maxHeartbeats 3200000 in
theorem lit_5 (b : Bool) (n : Int) (s : ByteArray) (L : List VT) (ks : List ByteArray) (hl : (litF (.mk 5 b n s L ks)).length ≤ 100000000000) (hn : L.length ≤ 1024) (hks : ks.length = L.length) (hkz : ∀ x ∈ ks, x.size ≤ 1000000) (ih : ∀ x ∈ L, LitCalls x)
    (lo ko : Option Addr) (lc kc : Nat) (W : World) (hp : Pow W) (hL : VList W L (.slice lo L.length lc)) (hKS : StrsAt W (.slice ko ks.length kc) ks) : Calls Tryz.prog 75 #[.agg #[.int .i64 5, .bool b, .int .i64 n, .string s, .slice lo L.length lc, .slice ko ks.length kc]] W fun e w' => e = .returned (.string (bx (litF (.mk 5 b n s L ks)))) ∧ Below W.heap.size W w' := by
  obtain ⟨i9, hi9, hz9, hn9, hy9⟩ := Tryz.info9'
  have HI9 := Lib.hid hi9
  have hsub := litF_sub (b := b) (n := n) (s := s) (k := 5) (L := L) (ks := ks) (.inr rfl) (fun _ => hks)
  have HRES : Hid (bx [123] ++ bx (joinT (txF 5 ks L)) ++ bx [125] = bx (litF (.mk 5 b n s L ks))) := by unfold Hid; rw [cat3, litF_list (.inr rfl)]; rfl
  have HTL : Hid ((txF 5 ks L).length = L.length) := txF_len (fun _ => hks)
  have HTG : Hid (∀ i (hi : i < L.length), ((txF 5 ks L).map bx).take i ++ [bx (quoteF (ks.getD i ByteArray.empty).data.toList) ++ ⟨#[58, 32]⟩ ++ bx (litF L[i])] = ((txF 5 ks L).map bx).take (i + 1)) := fun i hi => by
    have h := txF_get (k := 5) (ks := ks) (L := L) (fun _ => hks) hi
    rw [if_pos rfl] at h
    have h2 : i < ((txF 5 ks L).map bx).length := by rw [List.length_map, HTL.out]; exact hi
    rw [List.take_succ_eq_append_getElem h2, List.getElem_map, item_bx]
    congr 2
    exact congrArg bx ((Option.some.inj ((List.getElem?_eq_getElem (by rw [HTL.out]; exact hi)).symm.trans h)).symm)
  have HXL : Hid (∀ i (hi : i < L.length), (litF L[i]).length ≤ 100000000000) := fun i hi => Nat.le_trans (hsub.1 i hi) hl
  have HJL : Hid ((joinT (txF 5 ks L)).length ≤ 140737488355328) := by have := hsub.2; unfold Hid; omega
  have HSZ : Hid ((bx (joinT (txF 5 ks L))).size ≤ 140737488355328) := HJL
  generalize litF (.mk 5 b n s L ks) = res at *
  have HML : Hid (((txF 5 ks L).map bx).length = L.length) := by unfold Hid; rw [List.length_map, HTL.out]
  have HJ : Hid (∀ (v : Value) (w : World), StrsAt w v ((txF 5 ks L).map bx) → Calls Tryz.prog 48 #[v, .string ⟨#[44, 32]⟩] w fun e w' => e = .returned (.string (bx (joinT (txF 5 ks L)))) ∧ Below w.heap.size w w') := fun v w h => joins_any v _ w h HJL.out (by rw [HTL.out]; omega)
  have HKZ := Lib.hid hkz
  have HKL := Lib.hid hks
  clear hsub HJL hl HTL hi9 hkz hks
  generalize (txF 5 ks L).map bx = T at *
  generalize joinT (txF 5 ks L) = jt at *
  have IH := Lib.hid ih
  have HL := Lib.hid hL
  have HKS := Lib.hid hKS
  have HP := Lib.hid hp
  obtain ⟨W1, hW1⟩ : ∃ W1, W.alloc (.cells #[.int .i64 5, .bool b, .int .i64 n, .string s, .slice lo L.length lc, .slice ko ks.length kc] 46 (0, 0)) = W1 := ⟨_, rfl⟩
  have hs1 : W1.heap.size = W.heap.size + 1 := by rw [← hW1]; simp
  have hk0 : W1.heap[W.heap.size]? = some (.cells #[.int .i64 5, .bool b, .int .i64 n, .string s, .slice lo L.length lc, .slice ko ks.length kc] 46 (0, 0)) := by rw [← hW1]; exact hp_new rfl
  have HB1 : Hid (Below W.heap.size W W1) := by unfold Hid; rw [← hW1]; exact (Below.refl _ W).alloc (Nat.le_refl _) _
  have d0 : W1.cell? ⟨W.heap.size, 0, none⟩ = some (.int .i64 5) := cell_of_blk hk0 0
  have d4 : W1.cell? ⟨W.heap.size, 4, none⟩ = some (.slice lo L.length lc) := cell_of_blk hk0 4
  have HREL0 : Hid (LiRel W #[.int .i64 5, .bool b, .int .i64 n, .string s, .slice lo L.length lc, .slice ko ks.length kc] T T.length (.slice none 0 0) (.int .i64 ((0 : Nat) : Int)) W1) := ⟨0, rfl, Nat.zero_le _, rfl, hk0, .nil, HB1.out⟩
  clear hk0 ih hL hp hs1 hKS
  go_enter Tryz.func75, Tryz.ntmps75
  go_wp2_with fail
  clear d0 d4 hW1
  go_loopg [3, 30] T.length (LiRel W #[.int .i64 5, .bool b, .int .i64 n, .string s, .slice lo L.length lc, .slice ko ks.length kc] T)
  case atStart => exact HREL0.out
  case round =>
    obtain ⟨i, rfl, hi, rfl, hk0, ho, hbel⟩ := hrel
    have hTL : (T.take i).length = i := by rw [List.length_take]; omega
    have HTL := Lib.hid hTL
    obtain ⟨vo, vc, hvv⟩ := ho.form
    rw [hTL] at hvv
    subst hvv
    have HO := Lib.hid ho
    have HB := Lib.hid hbel
    have HK0 := Lib.hid hk0
    have HZ0 : Hid (W.heap.size < wr.heap.size) := (Array.getElem?_eq_some_iff.1 hk0).1
    rw [HML.out] at hi
    clear ho hbel hk0 HREL0 HB1 hTL
    by_cases hlt : i < L.length
    · have hii : (i : Int) < (L.length : Int) := by omega
      obtain ⟨bl, off, ce, rfl, hbl, hce, hvc⟩ := (HL.out.below HB.out).at hlt
      obtain ⟨k1, c1, n1, s1, lo1, ln1, lc1, ko1, kn1, kc1, rfl⟩ := vcell_slices0 hvc
      have e0 := hce 0 _ rfl
      have e1 := hce 1 _ rfl
      have e2 := hce 2 _ rfl
      have e3 := hce 3 _ rfl
      have e4 := hce 4 _ rfl
      have e5 := hce 5 _ rfl
      rw [Nat.add_zero] at e0
      obtain ⟨w5, hw5⟩ : ∃ w5, wr.alloc (.cells #[.int .i64 k1, .bool c1, .int .i64 n1, .string s1, .slice lo1 ln1 lc1, .slice ko1 kn1 kc1] 46 (0, 0)) = w5 := ⟨_, rfl⟩
      have hb5 : Below wr.heap.size wr w5 := by rw [← hw5]; exact (Below.refl _ wr).alloc (Nat.le_refl _) _
      have hk5 : w5.heap[wr.heap.size]? = some (.cells #[.int .i64 k1, .bool c1, .int .i64 n1, .string s1, .slice lo1 ln1 lc1, .slice ko1 kn1 kc1] 46 (0, 0)) := by rw [← hw5]; exact hp_new rfl
      have HBW := Lib.hid (HB.out.trans (hb5.mono HB.out.size))
      have hk05 := (hb5.block _ HZ0.out).trans HK0.out
      have HIK : Hid (i < ks.length) := by have := HKL.out; unfold Hid; omega
      obtain ⟨b1, o1, hko, hb1, hc1⟩ := HKS.out.at_ HIK.out
      subst hko
      have hkl : (i : Int) < (ks.length : Int) := by have := HIK.out; omega
      have g0 : w5.cell? ⟨W.heap.size, 0, none⟩ = some (.int .i64 5) := cell_of_blk hk05 0
      have CC := fun (W' : World) (h : Below w5.heap.size w5 W') => Lib.hid (IH.out _ (List.getElem_mem hlt) _ W' ((HP.out.below HBW.out).below h) (VCell.below h _ _ (VCell.below hb5 _ _ hvc)))
      have HTK := Lib.hid (HTG.out i hlt)
      have hxl := HXL.out i hlt
      have hky : (ks.getD i ByteArray.empty).size ≤ 1000000 := by
        rw [List.getD, List.getElem?_eq_getElem HIK.out]
        exact HKZ.out _ (List.getElem_mem _)
      have hql : (quoteF (ks.getD i ByteArray.empty).data.toList).length ≤ 4000002 := by
        have := quoteF_len (ks.getD i ByteArray.empty).data.toList
        rw [← Lib.size_eq] at this
        omega
      have CQ := Lib.hid (fun W' => quote_any (ks.getD i ByteArray.empty) hky W')
      have HS : Hid (∀ W' : World, W'.heap[W.heap.size]? = w5.heap[W.heap.size]? → W'.heap[b1]? = w5.heap[b1]? → W'.heap[wr.heap.size]? = w5.heap[wr.heap.size]? → W'.cell? ⟨W.heap.size, 5, none⟩ = some (.slice (some ⟨b1, o1, none⟩) ks.length kc) ∧ W'.cell? ⟨b1, o1 + i, none⟩ = some (.string (ks.getD i ByteArray.empty)) ∧ W'.cell? ⟨wr.heap.size, 0, none⟩ = some (.int .i64 k1) ∧ W'.cell? ⟨wr.heap.size, 1, none⟩ = some (.bool c1) ∧ W'.cell? ⟨wr.heap.size, 2, none⟩ = some (.int .i64 n1) ∧ W'.cell? ⟨wr.heap.size, 3, none⟩ = some (.string s1) ∧ W'.cell? ⟨wr.heap.size, 4, none⟩ = some (.slice lo1 ln1 lc1) ∧ W'.cell? ⟨wr.heap.size, 5, none⟩ = some (.slice ko1 kn1 kc1)) := fun W' h0 h1 h5 => by
        have k0 := h0.trans hk05
        have k5 := h5.trans hk5
        have q1 : W'.cell? ⟨b1, o1 + i, none⟩ = some (.string (ks.getD i ByteArray.empty)) := ((World.cell?_of_block (a := ⟨b1, o1 + i, none⟩) h1).trans (HBW.out.cell (p := ⟨b1, o1 + i, none⟩) hb1)).trans hc1
        exact ⟨cell_of_blk k0 5, q1, cell_of_blk k5 0, cell_of_blk k5 1, cell_of_blk k5 2, cell_of_blk k5 3, cell_of_blk k5 4, cell_of_blk k5 5⟩
      have HK5 := Lib.hid hk05
      have HO5 := Lib.hid (HO.out.below hb5)
      have HZ5 : Hid (wr.heap.size < w5.heap.size) := (Array.getElem?_eq_some_iff.1 hk5).1
      have HZB : Hid (b1 < W.heap.size) := hb1
      have HOL : Hid (∀ q, (Value.slice vo i vc).ownBlock = some q → W.heap.size + 1 ≤ q ∧ q < wr.heap.size) := fun q e => HO.out.low q e
      have HSX : Hid ((bx (litF L[i])).size ≤ 100000000000) := hxl
      have HSQ : Hid ((bx (quoteF (ks.getD i ByteArray.empty).data.toList)).size ≤ 4000002) := hql
      clear hce hvc hb5 hk5 hk05 HO HB HTG HJ hc1 hxl hql hky HKS HKZ hb1 HXL
      generalize hQ : quoteF (ks.getD i ByteArray.empty).data.toList = q at *
      have CQ : Hid (∀ W', Calls Tryz.prog 98 #[.string (ks.getD i ByteArray.empty)] W' fun e w' => e = .returned (.string (bx q)) ∧ Below W'.heap.size W' w') := fun W' => by
        have := CQ.out W'
        exact this
      clear hQ
      generalize ks.getD i ByteArray.empty = key at *
      generalize litF L[i] = x at *
      have hsx := HSX.out
      have hsq := HSQ.out
      have hsq2 : (bx q ++ ({ data := #[58, 32] } : ByteArray)).size ≤ 4000004 := by rw [ByteArray.size_append]; show _ + 2 ≤ _; omega
      as_aux_lemma =>
      go_upto_region 15 with fail
      clear hw5 e0 e1 e2 e3 e4 e5 g0
      refine wp_region_Z (S := fun W' : World => W'.cell? ⟨W.heap.size, 5, none⟩ = some (.slice (some ⟨b1, o1, none⟩) ks.length kc) ∧ W'.cell? ⟨b1, o1 + i, none⟩ = some (.string key) ∧ W'.cell? ⟨wr.heap.size, 0, none⟩ = some (.int .i64 k1) ∧ W'.cell? ⟨wr.heap.size, 1, none⟩ = some (.bool c1) ∧ W'.cell? ⟨wr.heap.size, 2, none⟩ = some (.int .i64 n1) ∧ W'.cell? ⟨wr.heap.size, 3, none⟩ = some (.string s1) ∧ W'.cell? ⟨wr.heap.size, 4, none⟩ = some (.slice lo1 ln1 lc1) ∧ W'.cell? ⟨wr.heap.size, 5, none⟩ = some (.slice ko1 kn1 kc1)) 13 (by kernel_rfl) (HS.out _ rfl rfl rfl) (fun hHeld => ?_)
      refine wpAnyZ_takeL (i := 0) (v := ?_) rfl (by kernel_rfl) (by kernel_rfl) (by kernel_rfl) (by kernel_rfl) (fun _ _ _ h => h) (Or.inl ⟨by rfl, ?_⟩) (by assumption) ?_
      rotate_left
      · (intro w hSw; (try dsimp only at hSw); go_simp; try with_reducible rfl)
      try simp only [Act.put, List.setIfInBounds_toArray, List.set_cons_zero, List.set_cons_succ]
      refine wpAnyZ_takeL (i := 1) (v := ?_) rfl (by kernel_rfl) (by kernel_rfl) (by kernel_rfl) (by kernel_rfl) (fun _ _ _ h => h) (Or.inl ⟨by rfl, ?_⟩) (by assumption) ?_
      rotate_left
      · (intro w hSw; (try dsimp only at hSw); go_simp; try with_reducible rfl)
      try simp only [Act.put, List.setIfInBounds_toArray, List.set_cons_zero, List.set_cons_succ]
      refine wpAnyZ_takeL (i := 2) (v := ?_) rfl (by kernel_rfl) (by kernel_rfl) (by kernel_rfl) (by kernel_rfl) (fun _ _ _ h => h) (Or.inl ⟨by rfl, ?_⟩) (by assumption) ?_
      rotate_left
      · (intro w hSw; (try dsimp only at hSw); go_simp; try with_reducible rfl)
      try simp only [Act.put, List.setIfInBounds_toArray, List.set_cons_zero, List.set_cons_succ]
      refine wpAnyZ_takeL (i := 3) (v := ?_) rfl (by kernel_rfl) (by kernel_rfl) (by kernel_rfl) (by kernel_rfl) (fun _ _ _ h => h) (Or.inl ⟨by rfl, ?_⟩) (by assumption) ?_
      rotate_left
      · (intro w hSw; (try dsimp only at hSw); go_simp; try with_reducible rfl)
      try simp only [Act.put, List.setIfInBounds_toArray, List.set_cons_zero, List.set_cons_succ]
      refine wpAnyZ_takeL (i := 4) (v := ?_) rfl (by kernel_rfl) (by kernel_rfl) (by kernel_rfl) (by kernel_rfl) (fun _ _ _ h => h) (Or.inl ⟨by rfl, ?_⟩) (by assumption) ?_
      rotate_left
      · (intro w hSw; (try dsimp only at hSw); go_simp; try with_reducible rfl)
      try simp only [Act.put, List.setIfInBounds_toArray, List.set_cons_zero, List.set_cons_succ]
      refine wpAnyZ_takeL (i := 5) (v := ?_) rfl (by kernel_rfl) (by kernel_rfl) (by kernel_rfl) (by kernel_rfl) (fun _ _ _ h => h) (Or.inl ⟨by rfl, ?_⟩) (by assumption) ?_
      rotate_left
      · (intro w hSw; (try dsimp only at hSw); go_simp; try with_reducible rfl)
      try simp only [Act.put, List.setIfInBounds_toArray, List.set_cons_zero, List.set_cons_succ]
      refine wpAnyZ_takeL (i := 8) (v := ?_) rfl (by kernel_rfl) (by kernel_rfl) (by kernel_rfl) (by kernel_rfl) (fun _ _ _ h => h) (Or.inl ⟨by rfl, ?_⟩) (by assumption) ?_
      rotate_left
      · (intro w hSw; (try dsimp only at hSw); go_simp; try with_reducible rfl)
      try simp only [Act.put, List.setIfInBounds_toArray, List.set_cons_zero, List.set_cons_succ]
      refine wpAnyZ_oneL (i := 6) (by kernel_rfl) rfl (fun K hK => ?_)
      go_simp
      go_at_call 98
      refine (CQ.out w5.drew).mono ?_
      rintro e w6 ⟨rfl, hb6⟩
      have HB6 : Hid (Below w5.heap.size w5 w6) := ((Below.refl _ _).drew).trans hb6
      clear hb6 CQ
      have CX := CC w6 HB6.out
      clear CC
      refine hK.out _ _ (fun _ => HS.out w6 (HB6.out.block _ (Nat.lt_trans HZ0.out HZ5.out)) (HB6.out.block _ (Nat.lt_trans HZB.out (Nat.lt_trans HZ0.out HZ5.out))) (HB6.out.block _ HZ5.out)) (fun hHeld => ?_)
      replace hHeld := hHeld (by decide)
      clear hK K
      try simp only [Act.put, List.setIfInBounds_toArray, List.set_cons_zero, List.set_cons_succ]
      refine wpAnyZ_takeL (i := 7) (v := ?_) rfl (by kernel_rfl) (by kernel_rfl) (by kernel_rfl) (by kernel_rfl) (fun _ _ _ h => h) (Or.inl ⟨by rfl, ?_⟩) (by assumption) ?_
      rotate_left
      · (intro w hSw; (try dsimp only at hSw); go_simp; rw [if_neg (by omega)])
      try simp only [Act.put, List.setIfInBounds_toArray, List.set_cons_zero, List.set_cons_succ]
      refine wpAnyZ_oneL (i := 9) (by kernel_rfl) rfl (fun K hK => ?_)
      go_simp
      go_at_call 75
      refine CX.out.mono ?_
      rintro e w7 ⟨rfl, hb7⟩
      have HB7 : Hid (Below w5.heap.size w5 w7) := HB6.out.trans (hb7.mono HB6.out.size)
      clear hb7 CX
      refine hK.out _ _ (fun _ => HS.out w7 (HB7.out.block _ (Nat.lt_trans HZ0.out HZ5.out)) (HB7.out.block _ (Nat.lt_trans HZB.out (Nat.lt_trans HZ0.out HZ5.out))) (HB7.out.block _ HZ5.out)) (fun hHeld => ?_)
      replace hHeld := hHeld (by decide)
      clear hK K
      try simp only [Act.put, List.setIfInBounds_toArray, List.set_cons_zero, List.set_cons_succ]
      refine wpAnyZ_oneL (i := 10) (by kernel_rfl) rfl (fun K hK => ?_)
      go_simp
      rw [if_neg (by omega)]
      refine hK.out _ _ (fun _ => HS.out w7 (HB7.out.block _ (Nat.lt_trans HZ0.out HZ5.out)) (HB7.out.block _ (Nat.lt_trans HZB.out (Nat.lt_trans HZ0.out HZ5.out))) (HB7.out.block _ HZ5.out)) (fun hHeld => ?_)
      replace hHeld := hHeld (by decide)
      clear hK K
      try simp only [Act.put, List.setIfInBounds_toArray, List.set_cons_zero, List.set_cons_succ]
      refine wpAnyZ_oneL (i := 11) (by kernel_rfl) rfl (fun K hK => ?_)
      rw [if_pos (by rfl)]
      refine wp_build1 44 9 (.tmp 48) rfl #[.string (bx q ++ ({ data := #[58, 32] } : ByteArray) ++ bx x)] i9 _ Tryz.underlying44 HI9.out hz9 1 hn9 (by decide) (by decide) rfl rfl ?_
      obtain ⟨W7, hW7⟩ : ∃ W7, w7.alloc (.cells #[.string (bx q ++ ({ data := #[58, 32] } : ByteArray) ++ bx x)] 9) = W7 := ⟨_, rfl⟩
      have hk7 : W7.heap[w7.heap.size]? = some (.cells #[.string (bx q ++ ({ data := #[58, 32] } : ByteArray) ++ bx x)] 9 (0, 0)) := by rw [← hW7]; exact hp_new rfl
      have HB8 : Hid (Below w5.heap.size w5 W7) := by unfold Hid; rw [← hW7]; exact HB7.out.alloc HB7.out.size _
      rw [hW7]
      clear hW7
      refine hK.out _ _ (fun _ => HS.out W7 (HB8.out.block _ (Nat.lt_trans HZ0.out HZ5.out)) (HB8.out.block _ (Nat.lt_trans HZB.out (Nat.lt_trans HZ0.out HZ5.out))) (HB8.out.block _ HZ5.out)) (fun hHeld => ?_)
      replace hHeld := hHeld (by decide)
      clear hK K
      try simp only [Act.put, List.setIfInBounds_toArray, List.set_cons_zero, List.set_cons_succ]
      have HO7 := Lib.hid (HO5.out.below HB8.out)
      have hz8 := HB8.out.size
      have hz0 := HZ0.out
      have hz5 := HZ5.out
      refine wpAnyZ_oneL (i := 12) (by kernel_rfl) rfl (fun K hK => ?_)
      rw [if_pos (by rfl)]
      refine wp_own_push (E := EStr) (.tmp 38) (.tmp 49) 44 rfl (W.heap.size + 1) 9 i9 _ 16 Tryz.underlying44 HI9.out hz9 hn9 hy9 rfl _ (.slice vo i vc) rfl HO7.out (bx q ++ ({ data := #[58, 32] } : ByteArray) ++ bx x) [.string (bx q ++ ({ data := #[58, 32] } : ByteArray) ++ bx x)] rfl w7.heap.size (0, 0) hk7 rfl (by rw [HTL.out]; unfold maxLen; omega) (by rw [HTL.out]; omega) (by omega) ?_
      intro v8 w8 hown hgrow hpu
      obtain ⟨g8, p8, hv8⟩ := hpu.form
      rw [HTL.out] at hv8
      subst hv8
      rw [HTK.out] at hown
      have hg8 : ∀ q, q < w5.heap.size → q < W.heap.size + 1 ∨ wr.heap.size ≤ q → w8.heap[q]? = w5.heap[q]? := fun q hq hq2 => (hgrow.block q (by omega) (fun e => by have := HOL.out q e.symm; omega)).trans (HB8.out.block q hq)
      have HK8 := Lib.hid ((hg8 W.heap.size (by omega) (.inl (by omega))).trans HK5.out)
      have HS8 := Lib.hid (HS.out w8 (hg8 _ (by omega) (.inl (by omega))) (hg8 _ (by have := HZB.out; omega) (.inl (by have := HZB.out; omega))) (hg8 _ hz5 (.inr (Nat.le_refl _))))
      have HB9 : Hid (Below W.heap.size W w8) := (HBW.out.trans (HB8.out.mono (by omega))).trans (below_grown hgrow (by omega) (fun q e => by have := (HOL.out q e).1; omega))
      have HOW := Lib.hid hown
      clear hown hgrow hpu hg8 HO7 hk7
      refine hK.out _ _ (fun _ => HS8.out) (fun hHeld => ?_)
      replace hHeld := hHeld (by decide)
      clear hK K
      try simp only [Act.put, List.setIfInBounds_toArray, List.set_cons_zero, List.set_cons_succ]
      refine wpAnyZ_oneL (i := 13) (by kernel_rfl) rfl (fun K hK => ?_)
      go_simp
      refine hK.out _ _ (fun h => absurd h (by decide)) (fun _ => ?_)
      clear hK K
      try simp only [Act.put, List.setIfInBounds_toArray, List.set_cons_zero, List.set_cons_succ]
      refine wpAnyZ_done (by kernel_rfl) ?_ _
      clear hHeld
      go_wp2_with fail
      go_roundg (T.length - (i + 1))
      case measure => have := HML.out; omega
      case rel => exact ⟨i + 1, by go_num, by have := HML.out; omega, rfl, HK8.out, HOW.out, HB9.out⟩
    · have hii : ¬ (i : Int) < (L.length : Int) := by omega
      have he : i = T.length := by have := HML.out; omega
      have hta : T.take i = T := by rw [he, List.take_length]
      have hst : StrsAt wr (.slice vo i vc) T := by
        have := HO.out.row (B' := fun _ => True) (fun _ _ => trivial) (fun _ _ => trivial)
        rw [hta] at this
        exact strs_row this
      have JC := Lib.hid (HJ.out _ wr hst)
      have c0 : ∀ w', Below wr.heap.size wr w' → w'.cell? ⟨W.heap.size, 0, none⟩ = some (.int .i64 5) := fun w' h => cell_of_blk ((h.block _ HZ0.out).trans HK0.out) 0
      have HC0 := Lib.hid c0
      have hz1 := HSZ.out
      have hz2 : (({ data := #[123] } : ByteArray) ++ bx jt).size ≤ 140737488355329 := by rw [ByteArray.size_append]; show 1 + _ ≤ _; omega
      clear hst hta HJ HO HTG c0 he
      as_aux_lemma =>
      go_wp2_with fail
      refine JC.out.mono ?_
      rintro e w4 ⟨rfl, hb4⟩
      have c0 := HC0.out w4 hb4
      have HB4 : Hid (Below W.heap.size W w4) := HB.out.trans (hb4.mono HB.out.size)
      clear hb4 JC HC0
      go_wp2_with fail
      go_ret
      exact ⟨by rw [← HRES.out] <;> rfl, HB4.out⟩
end Go.Proofs.YtomecnncighkgaaGreatDoor
