/- The walk over the reference's Quote. -/
import Derived.Test.YtomecnncighkgaaGreatDoorVr3m
import Derived.Test.YtomecnncighkgaaGreatDoorVq15
import Derived.Test.YtomecnncighkgaaGreatDoorVcm
namespace Go.Proofs.YtomecnncighkgaaGreatDoor
open Go.RowKit Go.Deep

def QqRel (s : List UInt8) (w : World) (f : Nat) (t3 t4 : Value) (wr : World) : Prop :=
  ∃ i : Nat, t3 = .string (bx (qTo s i)) ∧ t4 = .int .i64 (i : Nat) ∧ i ≤ s.length ∧ f = s.length - i ∧ Below w.heap.size w wr

set_option maxRecDepth 100000 in
set_option maxHeartbeats 1600000 in
theorem rquote_any (s : ByteArray) (hs : s.size ≤ 1000000) (w : World) : Calls Tryz.prog 103 #[.string s] w fun e w' => e = .returned (.string (bx (quoteF s.data.toList))) ∧ Below w.heap.size w w' := by
  have HS := Lib.hid (Lib.size_eq s)
  have HQL : Hid (∀ i, (bx (qTo s.data.toList i)).size ≤ 4000001) := fun i => by have := qTo_len s.data.toList i; rw [← Lib.size_eq] at this; show (qTo s.data.toList i).length ≤ _; omega
  have RC := Lib.hid rchar_any
  have HREL0 : Hid (QqRel s.data.toList w s.data.toList.length (.string (bx [34])) (.int .i64 ((0 : Nat) : Int)) (w.alloc (.cells #[.int .u8 34] 5))) := ⟨0, rfl, rfl, Nat.zero_le _, rfl, (Below.refl _ w).alloc (Nat.le_refl _) _⟩
  have hcv : Sem.run Tryz.prog (convert 39 9 (.slice (some ⟨w.heap.size, 0, none⟩) 1 1)) (w.alloc (.cells #[.int .u8 34] 5)) = .ok (.string (bx [34])) (w.alloc (.cells #[.int .u8 34] 5)) := conv_new w [34]
  go_enter Tryz.func103, Tryz.ntmps103
  go_wp2_with fail
  clear hcv
  go_loopg [3, 4] s.data.toList.length (QqRel s.data.toList w)
  case atStart => exact HREL0.out
  case round =>
    obtain ⟨i, rfl, rfl, hi, rfl, hbel⟩ := hrel
    have HB := Lib.hid hbel
    rw [← HS.out] at hi
    have hq := HQL.out i
    clear hbel HREL0
    by_cases hlt : i < s.size
    · have hat := str_at (s := s) rfl i hlt
      have hii : (i : Int) < (s.size : Int) := by omega
      have HQS := Lib.hid (qTo_succ s.data.toList i (by rw [← HS.out]; exact hlt))
      have HMS : Hid (s.data.toList.length - (i + 1) < s.data.toList.length - i) := by have := HS.out; unfold Hid; omega
      generalize s.data.toList.getD i 0 = c at *
      have hc : (bx (chF c)).size ≤ 4 := chF_len c
      have CC := Lib.hid (RC.out c wr)
      have HN : Hid (bx (qTo s.data.toList i) ++ bx (chF c) = bx (qTo s.data.toList (i + 1))) := by unfold Hid; rw [HQS.out, bx_app]
      clear HQS HQL RC
      generalize bx (chF c) = z at *
      generalize bx (qTo s.data.toList i) = q at *
      as_aux_lemma =>
      go_wp2_with fail
      refine CC.out.mono ?_
      rintro e w4 ⟨rfl, hb4⟩
      have HB4 : Hid (Below w.heap.size w w4) := HB.out.trans (hb4.mono HB.out.size)
      clear hb4 CC
      go_wp2_with fail
      go_roundg (s.data.toList.length - (i + 1))
      case measure => exact HMS.out
      case rel => exact ⟨i + 1, by rw [HN.out], by go_num, by have := HS.out; omega, rfl, HB4.out⟩
    · have hii : ¬ (i : Int) < (s.size : Int) := by omega
      have HQ : Hid (bx (qTo s.data.toList i) ++ bx [34] = bx (quoteF s.data.toList)) := by
        have he : i = s.data.toList.length := by rw [← HS.out]; omega
        unfold Hid qTo quoteF
        rw [he, List.take_length, bx_app]; rfl
      have hcv : Sem.run Tryz.prog (convert 39 9 (.slice (some ⟨wr.heap.size, 0, none⟩) 1 1)) (wr.alloc (.cells #[.int .u8 34] 5)) = .ok (.string (bx [34])) (wr.alloc (.cells #[.int .u8 34] 5)) := conv_new wr [34]
      have h1 : (bx [34]).size = 1 := rfl
      have HBA : Hid (Below w.heap.size w (wr.alloc (.cells #[.int .u8 34] 5))) := HB.out.alloc HB.out.size _
      clear HQL RC
      generalize bx (qTo s.data.toList i) = q at *
      as_aux_lemma =>
      go_wp2_with fail
      go_ret
      exact ⟨by rw [← HQ.out] <;> rfl, HBA.out⟩
end Go.Proofs.YtomecnncighkgaaGreatDoor
/- The walk over the reference's literal. -/
namespace Go.Proofs.YtomecnncighkgaaGreatDoor
open Go.RowKit Go.Deep

theorem joinT_snoc {l : List (List UInt8)} (x : List UInt8) (h : l ≠ []) : joinT (l ++ [x]) = joinT l ++ 44 :: 32 :: x := by
  induction l with
  | nil => exact absurd rfl h
  | cons a l ih =>
    cases l with
    | nil => rfl
    | cons b l =>
      rw [List.cons_append, List.cons_append, joinT, ← List.cons_append, ih (by simp), joinT]
      simp
theorem joinT_take (l : List (List UInt8)) : ∀ i, (joinT (l.take i)).length ≤ (joinT l).length := by
  have step : ∀ i, (joinT (l.take i)).length ≤ (joinT (l.take (i + 1))).length := by
    intro i
    by_cases h : i < l.length
    · rw [List.take_succ_eq_append_getElem h]
      by_cases h0 : l.take i = []
      · rw [h0]; exact Nat.zero_le _
      · rw [joinT_snoc _ h0, List.length_append]; omega
    · rw [List.take_of_length_le (by omega), List.take_of_length_le (by omega)]; exact Nat.le_refl _
  intro i
  by_cases h : l.length ≤ i
  · rw [List.take_of_length_le h]; exact Nat.le_refl _
  · have : ∀ d, i + d = l.length → (joinT (l.take i)).length ≤ (joinT l).length := by
      intro d
      induction d generalizing i with
      | zero => intro e; omega
      | succ d ih =>
        intro e
        by_cases h2 : l.length ≤ i + 1
        · have := step i; rw [List.take_of_length_le h2] at this; exact this
        · exact Nat.le_trans (step i) (ih (i + 1) h2 (by omega))
    exact this (l.length - i) (by omega)
theorem joinT_step {l : List (List UInt8)} {i : Nat} (h : i < l.length) : (i = 0 → bx (joinT (l.take i)) ++ bx l[i] = bx (joinT (l.take (i + 1)))) ∧ (0 < i → bx (joinT (l.take i)) ++ bx [44, 32] ++ bx l[i] = bx (joinT (l.take (i + 1)))) := by
  rw [List.take_succ_eq_append_getElem h]
  refine ⟨fun e => ?_, fun e => ?_⟩
  · subst e; rw [bx_app]; rfl
  · rw [joinT_snoc _ (by intro e0; have := congrArg List.length e0; rw [List.length_take, List.length_nil] at this; omega), cat3]; rfl
def RLitCalls (t : VT) : Prop := ∀ cs W, VCell W t cs → Calls Tryz.prog 80 #[.agg cs.toArray] W fun e w' => e = .returned (.string (bx (litF t))) ∧ Below W.heap.size W w'
def RlRel (W : World) (cs : Array Value) (T : List (List UInt8)) (f : Nat) (t3 t4 : Value) (wr : World) : Prop :=
  ∃ i : Nat, t3 = .string (bx (joinT (T.take i))) ∧ t4 = .int .i64 (i : Nat) ∧ i ≤ T.length ∧ f = T.length - i ∧ wr.heap[W.heap.size]? = some (.cells cs 46 (0, 0)) ∧ Below W.heap.size W wr

set_option maxRecDepth 100000 in
set_option maxHeartbeats 1600000 in
theorem rlit_o (k : Int) (hk0 : 0 ≤ k) (hk5 : k ≤ 3) (b : Bool) (n : Int) (hn0 : -9223372036854775808 ≤ n) (hn1 : n ≤ 9223372036854775807) (s : ByteArray) (hs : s.size ≤ 1000000) (L : List VT) (ks : List ByteArray)
    (lo ko : Option Addr) (ln lc kn kc : Nat) (W : World) : Calls Tryz.prog 80 #[.agg #[.int .i64 k, .bool b, .int .i64 n, .string s, .slice lo ln lc, .slice ko kn kc]] W fun e w' => e = .returned (.string (bx (litF (.mk k b n s L ks)))) ∧ Below W.heap.size W w' := by
  have HR := Lib.hid (lit_scalar k (by omega) (by omega) b n s L ks)
  generalize litF (.mk k b n s L ks) = r at *
  obtain ⟨W1, hW1⟩ : ∃ W1, W.alloc (.cells #[.int .i64 k, .bool b, .int .i64 n, .string s, .slice lo ln lc, .slice ko kn kc] 46 (0, 0)) = W1 := ⟨_, rfl⟩
  have hk0' : W1.heap[W.heap.size]? = some (.cells #[.int .i64 k, .bool b, .int .i64 n, .string s, .slice lo ln lc, .slice ko kn kc] 46 (0, 0)) := by rw [← hW1]; exact hp_new rfl
  have HB1 : Hid (Below W.heap.size W W1) := by unfold Hid; rw [← hW1]; exact (Below.refl _ W).alloc (Nat.le_refl _) _
  have d0 : W1.cell? ⟨W.heap.size, 0, none⟩ = some (.int .i64 k) := cell_of_blk hk0' 0
  have d1 : W1.cell? ⟨W.heap.size, 1, none⟩ = some (.bool b) := cell_of_blk hk0' 1
  have d2 : W1.cell? ⟨W.heap.size, 2, none⟩ = some (.int .i64 n) := cell_of_blk hk0' 2
  have d3 : W1.cell? ⟨W.heap.size, 3, none⟩ = some (.string s) := cell_of_blk hk0' 3
  have IT := Lib.hid (rdecimal_any n hn0 hn1 W1)
  have QU := Lib.hid (rquote_any s hs W1)
  clear hk0' hn0 hn1 hs
  have hk : k = 0 ∨ k = 1 ∨ k = 2 ∨ k = 3 := by omega
  clear hk0 hk5
  rcases hk with rfl | rfl | rfl | rfl
  · have HE : Hid (r = [110, 117, 108, 108]) := HR.out
    clear HR IT QU
    as_aux_lemma =>
    go_enter Tryz.func80, Tryz.ntmps80
    go_wp2_with fail
    go_ret
    exact ⟨by rw [HE.out] <;> rfl, HB1.out⟩
  · have HE : Hid (r = if b then [116, 114, 117, 101] else [102, 97, 108, 115, 101]) := HR.out
    clear HR IT QU
    cases b
    · as_aux_lemma =>
      go_enter Tryz.func80, Tryz.ntmps80
      go_wp2_with fail
      go_ret
      exact ⟨by rw [HE.out] <;> rfl, HB1.out⟩
    · as_aux_lemma =>
      go_enter Tryz.func80, Tryz.ntmps80
      go_wp2_with fail
      go_ret
      exact ⟨by rw [HE.out] <;> rfl, HB1.out⟩
  · have HE : Hid (r = Lib.itoa n) := HR.out
    clear HR QU
    as_aux_lemma =>
    go_enter Tryz.func80, Tryz.ntmps80
    go_wp2_with fail
    refine IT.out.mono ?_
    rintro e w4 ⟨rfl, hb⟩
    have HB := Lib.hid hb
    clear hb IT
    go_wp2_with fail
    go_ret
    exact ⟨by rw [HE.out] <;> rfl, HB1.out.trans (HB.out.mono HB1.out.size)⟩
  · have HE : Hid (r = quoteF s.data.toList) := HR.out
    clear HR IT
    as_aux_lemma =>
    go_enter Tryz.func80, Tryz.ntmps80
    go_wp2_with fail
    refine QU.out.mono ?_
    rintro e w4 ⟨rfl, hb⟩
    have HB := Lib.hid hb
    clear hb QU
    go_wp2_with fail
    go_ret
    exact ⟨by rw [HE.out] <;> rfl, HB1.out.trans (HB.out.mono HB1.out.size)⟩

set_option maxRecDepth 100000 in
set_option maxHeartbeats 3200000 in
theorem rlit_4 (b : Bool) (n : Int) (s : ByteArray) (L : List VT) (ks : List ByteArray) (hl : (litF (.mk 4 b n s L ks)).length ≤ 100000000000) (hn : L.length ≤ 1024) (hks : 4 = (5 : Int) → ks.length = L.length) (hkz : ∀ x ∈ ks, x.size ≤ 1000000) (ih : ∀ x ∈ L, RLitCalls x)
    (lo ko : Option Addr) (lc kc : Nat) (W : World) (hL : VList W L (.slice lo L.length lc)) (hKS : StrsAt W (.slice ko ks.length kc) ks) : Calls Tryz.prog 80 #[.agg #[.int .i64 4, .bool b, .int .i64 n, .string s, .slice lo L.length lc, .slice ko ks.length kc]] W fun e w' => e = .returned (.string (bx (litF (.mk 4 b n s L ks)))) ∧ Below W.heap.size W w' := by
  have hsub := litF_sub (b := b) (n := n) (s := s) (k := 4) (L := L) (ks := ks) (.inl rfl) hks
  have HRES : Hid (bx [91] ++ bx (joinT (txF 4 ks L)) ++ bx [93] = bx (litF (.mk 4 b n s L ks))) := by unfold Hid; rw [cat3, litF_list (.inl rfl)]; rfl
  have HTL : Hid ((txF 4 ks L).length = L.length) := txF_len hks
  have HTG : Hid (∀ i (hi : i < L.length) (h2 : i < (txF 4 ks L).length), (txF 4 ks L)[i] = litF L[i]) := fun i hi h2 => by
    have h := txF_get (k := 4) (ks := ks) (L := L) hks hi
    rw [if_neg (by decide)] at h
    exact Option.some.inj ((List.getElem?_eq_getElem h2).symm.trans h)
  have HXL : Hid (∀ i (hi : i < L.length), (bx (litF L[i])).size ≤ 100000000000) := fun i hi => Nat.le_trans (hsub.1 i hi) hl
  have HPL : Hid (∀ i, (bx (joinT ((txF 4 ks L).take i))).size ≤ 100000000000) := fun i => Nat.le_trans (joinT_take _ i) (Nat.le_trans hsub.2 hl)
  generalize litF (.mk 4 b n s L ks) = res at *
  have HKZ := Lib.hid hkz
  have HKL := Lib.hid hks
  clear hsub hl hkz hks
  generalize txF 4 ks L = T at *
  have IH := Lib.hid ih
  have HL := Lib.hid hL
  have HKS := Lib.hid hKS
  obtain ⟨W1, hW1⟩ : ∃ W1, W.alloc (.cells #[.int .i64 4, .bool b, .int .i64 n, .string s, .slice lo L.length lc, .slice ko ks.length kc] 46 (0, 0)) = W1 := ⟨_, rfl⟩
  have hk0 : W1.heap[W.heap.size]? = some (.cells #[.int .i64 4, .bool b, .int .i64 n, .string s, .slice lo L.length lc, .slice ko ks.length kc] 46 (0, 0)) := by rw [← hW1]; exact hp_new rfl
  have HB1 : Hid (Below W.heap.size W W1) := by unfold Hid; rw [← hW1]; exact (Below.refl _ W).alloc (Nat.le_refl _) _
  have d0 : W1.cell? ⟨W.heap.size, 0, none⟩ = some (.int .i64 4) := cell_of_blk hk0 0
  have HREL0 : Hid (RlRel W #[.int .i64 4, .bool b, .int .i64 n, .string s, .slice lo L.length lc, .slice ko ks.length kc] T T.length (.string ⟨#[]⟩) (.int .i64 ((0 : Nat) : Int)) W1) := ⟨0, rfl, rfl, Nat.zero_le _, rfl, hk0, HB1.out⟩
  clear hk0 ih hL hKS
  go_enter Tryz.func80, Tryz.ntmps80
  go_wp2_with fail
  clear d0 hW1
  go_loopg [3, 4] T.length (RlRel W #[.int .i64 4, .bool b, .int .i64 n, .string s, .slice lo L.length lc, .slice ko ks.length kc] T)
  case atStart => exact HREL0.out
  case round =>
    obtain ⟨i, rfl, rfl, hi, rfl, hk0, hbel⟩ := hrel
    have HB := Lib.hid hbel
    have HK0 := Lib.hid hk0
    have HZ0 : Hid (W.heap.size < wr.heap.size) := (Array.getElem?_eq_some_iff.1 hk0).1
    have hpl := HPL.out i
    rw [HTL.out] at hi
    have c0 : wr.cell? ⟨W.heap.size, 0, none⟩ = some (.int .i64 4) := cell_of_blk hk0 0
    have c4 : wr.cell? ⟨W.heap.size, 4, none⟩ = some (.slice lo L.length lc) := cell_of_blk hk0 4
    have c5 : wr.cell? ⟨W.heap.size, 5, none⟩ = some (.slice ko ks.length kc) := cell_of_blk hk0 5
    clear hbel hk0 HREL0 HB1
    by_cases hlt : i < L.length
    · have hii : (i : Int) < (L.length : Int) := by omega
      obtain ⟨bl, off, ce, rfl, hbl, hce, hvc⟩ := HL.out.at hlt
      obtain ⟨k1, c1, n1, s1, lo1, ln1, lc1, ko1, kn1, kc1, rfl⟩ := vcell_slices0 hvc
      have HE : Hid (∀ w' : World, Below W.heap.size W w' → w'.cell? ⟨bl, off + i * 6, none⟩ = some (.int .i64 k1) ∧ w'.cell? ⟨bl, off + i * 6 + 1, none⟩ = some (.bool c1) ∧ w'.cell? ⟨bl, off + i * 6 + 2, none⟩ = some (.int .i64 n1) ∧ w'.cell? ⟨bl, off + i * 6 + 3, none⟩ = some (.string s1) ∧ w'.cell? ⟨bl, off + i * 6 + 4, none⟩ = some (.slice lo1 ln1 lc1) ∧ w'.cell? ⟨bl, off + i * 6 + 5, none⟩ = some (.slice ko1 kn1 kc1)) := fun w' hb => by
        have e : ∀ (j : Nat) u, [Value.int .i64 k1, .bool c1, .int .i64 n1, .string s1, .slice lo1 ln1 lc1, .slice ko1 kn1 kc1][j]? = some u → w'.cell? ⟨bl, off + i * 6 + j, none⟩ = some u := fun j u hu => (hb.cell (p := ⟨bl, off + i * 6 + j, none⟩) hbl).trans (hce j u hu)
        exact ⟨e 0 _ rfl, e 1 _ rfl, e 2 _ rfl, e 3 _ rfl, e 4 _ rfl, e 5 _ rfl⟩
      have CC : Hid (∀ w' : World, Below W.heap.size W w' → Calls Tryz.prog 80 #[.agg #[.int .i64 k1, .bool c1, .int .i64 n1, .string s1, .slice lo1 ln1 lc1, .slice ko1 kn1 kc1]] w' fun e w'' => e = .returned (.string (bx (litF L[i]))) ∧ Below w'.heap.size w' w'') := fun w' hb => IH.out _ (List.getElem_mem hlt) _ w' (VCell.below hb _ _ hvc)
      have hit : i < T.length := by rw [HTL.out]; exact hlt
      have hst := joinT_step hit
      rw [HTG.out i hlt hit] at hst
      obtain ⟨nx, hnx⟩ : ∃ nx, bx (joinT (T.take (i + 1))) = nx := ⟨_, rfl⟩
      rw [hnx] at hst
      have HNT := Lib.hid hnx
      have HST := Lib.hid hst
      clear hnx
      have hxl := HXL.out i hlt
      clear hst HTG HPL HXL hce hvc hit
      generalize bx (joinT (T.take i)) = q at *
      generalize bx (litF L[i]) = x at *
      have hsep : (bx [44, 32]).size = 2 := rfl
      have hcl : (bx [58, 32]).size = 2 := rfl
      have hq2 : (q ++ bx [44, 32]).size ≤ 100000000002 := by rw [ByteArray.size_append]; omega
      by_cases h0 : i = 0
      · have HN : Hid (q ++ x = nx) := HST.out.1 h0
        have hi0 : ¬ (0 : Int) < (i : Int) := by omega
        clear HST h0
        as_aux_lemma =>
        obtain ⟨e0, e1, e2, e3, e4, e5⟩ := HE.out wr HB.out
        have CX := Lib.hid (CC.out wr HB.out)
        clear CC
        go_wp2_with fail
        clear e0 e1 e2 e3 e4 e5
        refine CX.out.mono ?_
        rintro e w5 ⟨rfl, hb5⟩
        have HBF := Lib.hid hb5
        clear hb5 CX
        go_wp2_with fail
        have HNX := HN
        go_roundg (T.length - (i + 1))
        case measure => have := HTL.out; omega
        case rel => exact ⟨i + 1, by rw [HNT.out, ← HNX.out] <;> rfl, by go_num, by have := HTL.out; omega, rfl, HBF.out.block _ HZ0.out |>.trans HK0.out, HB.out.trans (HBF.out.mono HB.out.size)⟩
      · have HN : Hid (q ++ bx [44, 32] ++ x = nx) := HST.out.2 (by omega)
        have hi0 : (0 : Int) < (i : Int) := by omega
        clear HST h0
        as_aux_lemma =>
        obtain ⟨e0, e1, e2, e3, e4, e5⟩ := HE.out wr HB.out
        have CX := Lib.hid (CC.out wr HB.out)
        clear CC
        go_wp2_with fail
        clear e0 e1 e2 e3 e4 e5
        refine CX.out.mono ?_
        rintro e w5 ⟨rfl, hb5⟩
        have HBF := Lib.hid hb5
        clear hb5 CX
        go_wp2_with fail
        have HNX := HN
        go_roundg (T.length - (i + 1))
        case measure => have := HTL.out; omega
        case rel => exact ⟨i + 1, by rw [HNT.out, ← HNX.out] <;> rfl, by go_num, by have := HTL.out; omega, rfl, HBF.out.block _ HZ0.out |>.trans HK0.out, HB.out.trans (HBF.out.mono HB.out.size)⟩
    · have hii : ¬ (i : Int) < (L.length : Int) := by omega
      have he : T.take i = T := List.take_of_length_le (by have := HTL.out; omega)
      rw [he] at hpl ⊢
      clear HTG HPL HXL IH HKZ he
      have hz2 : (bx [91] ++ bx (joinT T)).size ≤ 100000000001 := by rw [ByteArray.size_append]; show 1 + _ ≤ _; omega
      have hz1 : (bx [93]).size = 1 := rfl
      have hz0 : (bx [91]).size = 1 := rfl
      generalize bx (joinT T) = q at *
      as_aux_lemma =>
      go_wp2_with fail
      go_ret
      exact ⟨by rw [← HRES.out] <;> rfl, HB.out⟩

set_option maxRecDepth 100000 in
set_option maxHeartbeats 3200000 in
theorem rlit_5 (b : Bool) (n : Int) (s : ByteArray) (L : List VT) (ks : List ByteArray) (hl : (litF (.mk 5 b n s L ks)).length ≤ 100000000000) (hn : L.length ≤ 1024) (hks : 5 = (5 : Int) → ks.length = L.length) (hkz : ∀ x ∈ ks, x.size ≤ 1000000) (ih : ∀ x ∈ L, RLitCalls x)
    (lo ko : Option Addr) (lc kc : Nat) (W : World) (hL : VList W L (.slice lo L.length lc)) (hKS : StrsAt W (.slice ko ks.length kc) ks) : Calls Tryz.prog 80 #[.agg #[.int .i64 5, .bool b, .int .i64 n, .string s, .slice lo L.length lc, .slice ko ks.length kc]] W fun e w' => e = .returned (.string (bx (litF (.mk 5 b n s L ks)))) ∧ Below W.heap.size W w' := by
  have hsub := litF_sub (b := b) (n := n) (s := s) (k := 5) (L := L) (ks := ks) (.inr rfl) hks
  have HRES : Hid (bx [123] ++ bx (joinT (txF 5 ks L)) ++ bx [125] = bx (litF (.mk 5 b n s L ks))) := by unfold Hid; rw [cat3, litF_list (.inr rfl)]; rfl
  have HTL : Hid ((txF 5 ks L).length = L.length) := txF_len hks
  have HTG : Hid (∀ i (hi : i < L.length) (h2 : i < (txF 5 ks L).length), (txF 5 ks L)[i] = itemF (ks.getD i ByteArray.empty) (litF L[i])) := fun i hi h2 => by
    have h := txF_get (k := 5) (ks := ks) (L := L) hks hi
    rw [if_pos rfl] at h
    exact Option.some.inj ((List.getElem?_eq_getElem h2).symm.trans h)
  have HXL : Hid (∀ i (hi : i < L.length), (bx (litF L[i])).size ≤ 100000000000) := fun i hi => Nat.le_trans (hsub.1 i hi) hl
  have HPL : Hid (∀ i, (bx (joinT ((txF 5 ks L).take i))).size ≤ 100000000000) := fun i => Nat.le_trans (joinT_take _ i) (Nat.le_trans hsub.2 hl)
  generalize litF (.mk 5 b n s L ks) = res at *
  have HKZ := Lib.hid hkz
  have HKL := Lib.hid hks
  clear hsub hl hkz hks
  generalize txF 5 ks L = T at *
  have IH := Lib.hid ih
  have HL := Lib.hid hL
  have HKS := Lib.hid hKS
  obtain ⟨W1, hW1⟩ : ∃ W1, W.alloc (.cells #[.int .i64 5, .bool b, .int .i64 n, .string s, .slice lo L.length lc, .slice ko ks.length kc] 46 (0, 0)) = W1 := ⟨_, rfl⟩
  have hk0 : W1.heap[W.heap.size]? = some (.cells #[.int .i64 5, .bool b, .int .i64 n, .string s, .slice lo L.length lc, .slice ko ks.length kc] 46 (0, 0)) := by rw [← hW1]; exact hp_new rfl
  have HB1 : Hid (Below W.heap.size W W1) := by unfold Hid; rw [← hW1]; exact (Below.refl _ W).alloc (Nat.le_refl _) _
  have d0 : W1.cell? ⟨W.heap.size, 0, none⟩ = some (.int .i64 5) := cell_of_blk hk0 0
  have HREL0 : Hid (RlRel W #[.int .i64 5, .bool b, .int .i64 n, .string s, .slice lo L.length lc, .slice ko ks.length kc] T T.length (.string ⟨#[]⟩) (.int .i64 ((0 : Nat) : Int)) W1) := ⟨0, rfl, rfl, Nat.zero_le _, rfl, hk0, HB1.out⟩
  clear hk0 ih hL hKS
  go_enter Tryz.func80, Tryz.ntmps80
  go_wp2_with fail
  clear d0 hW1
  go_loopg [3, 4] T.length (RlRel W #[.int .i64 5, .bool b, .int .i64 n, .string s, .slice lo L.length lc, .slice ko ks.length kc] T)
  case atStart => exact HREL0.out
  case round =>
    obtain ⟨i, rfl, rfl, hi, rfl, hk0, hbel⟩ := hrel
    have HB := Lib.hid hbel
    have HK0 := Lib.hid hk0
    have HZ0 : Hid (W.heap.size < wr.heap.size) := (Array.getElem?_eq_some_iff.1 hk0).1
    have hpl := HPL.out i
    rw [HTL.out] at hi
    have c0 : wr.cell? ⟨W.heap.size, 0, none⟩ = some (.int .i64 5) := cell_of_blk hk0 0
    have c4 : wr.cell? ⟨W.heap.size, 4, none⟩ = some (.slice lo L.length lc) := cell_of_blk hk0 4
    have c5 : wr.cell? ⟨W.heap.size, 5, none⟩ = some (.slice ko ks.length kc) := cell_of_blk hk0 5
    clear hbel hk0 HREL0 HB1
    by_cases hlt : i < L.length
    · have hii : (i : Int) < (L.length : Int) := by omega
      obtain ⟨bl, off, ce, rfl, hbl, hce, hvc⟩ := HL.out.at hlt
      obtain ⟨k1, c1, n1, s1, lo1, ln1, lc1, ko1, kn1, kc1, rfl⟩ := vcell_slices0 hvc
      have HE : Hid (∀ w' : World, Below W.heap.size W w' → w'.cell? ⟨bl, off + i * 6, none⟩ = some (.int .i64 k1) ∧ w'.cell? ⟨bl, off + i * 6 + 1, none⟩ = some (.bool c1) ∧ w'.cell? ⟨bl, off + i * 6 + 2, none⟩ = some (.int .i64 n1) ∧ w'.cell? ⟨bl, off + i * 6 + 3, none⟩ = some (.string s1) ∧ w'.cell? ⟨bl, off + i * 6 + 4, none⟩ = some (.slice lo1 ln1 lc1) ∧ w'.cell? ⟨bl, off + i * 6 + 5, none⟩ = some (.slice ko1 kn1 kc1)) := fun w' hb => by
        have e : ∀ (j : Nat) u, [Value.int .i64 k1, .bool c1, .int .i64 n1, .string s1, .slice lo1 ln1 lc1, .slice ko1 kn1 kc1][j]? = some u → w'.cell? ⟨bl, off + i * 6 + j, none⟩ = some u := fun j u hu => (hb.cell (p := ⟨bl, off + i * 6 + j, none⟩) hbl).trans (hce j u hu)
        exact ⟨e 0 _ rfl, e 1 _ rfl, e 2 _ rfl, e 3 _ rfl, e 4 _ rfl, e 5 _ rfl⟩
      have CC : Hid (∀ w' : World, Below W.heap.size W w' → Calls Tryz.prog 80 #[.agg #[.int .i64 k1, .bool c1, .int .i64 n1, .string s1, .slice lo1 ln1 lc1, .slice ko1 kn1 kc1]] w' fun e w'' => e = .returned (.string (bx (litF L[i]))) ∧ Below w'.heap.size w' w'') := fun w' hb => IH.out _ (List.getElem_mem hlt) _ w' (VCell.below hb _ _ hvc)
      have hit : i < T.length := by rw [HTL.out]; exact hlt
      have hst := joinT_step hit
      rw [HTG.out i hlt hit] at hst
      have HIK : Hid (i < ks.length) := by have := HKL.out (by first | rfl | trivial); unfold Hid; omega
      obtain ⟨b1, o1, hko, hb1, hc1⟩ := (HKS.out.below HB.out).at_ HIK.out
      subst hko
      have hkl : (i : Int) < (ks.length : Int) := by have := HIK.out; omega
      have hky : (ks.getD i ByteArray.empty).size ≤ 1000000 := by
        rw [List.getD, List.getElem?_eq_getElem HIK.out]
        exact HKZ.out _ (List.getElem_mem _)
      have hql : (bx (quoteF (ks.getD i ByteArray.empty).data.toList)).size ≤ 4000002 := by
        have := quoteF_len (ks.getD i ByteArray.empty).data.toList
        rw [← Lib.size_eq] at this
        show (quoteF _).length ≤ _
        omega
      have CQ := Lib.hid (rquote_any (ks.getD i ByteArray.empty) hky wr)
      rw [show bx (itemF (ks.getD i ByteArray.empty) (litF L[i])) = bx (quoteF (ks.getD i ByteArray.empty).data.toList) ++ bx [58, 32] ++ bx (litF L[i]) from (item_bx _ _).symm] at hst
      generalize bx (quoteF (ks.getD i ByteArray.empty).data.toList) = kq at *
      generalize ks.getD i ByteArray.empty = key at *
      obtain ⟨nx, hnx⟩ : ∃ nx, bx (joinT (T.take (i + 1))) = nx := ⟨_, rfl⟩
      rw [hnx] at hst
      have HNT := Lib.hid hnx
      have HST := Lib.hid hst
      clear hnx
      have hxl := HXL.out i hlt
      clear hst HTG HPL HXL hce hvc hit
      generalize bx (joinT (T.take i)) = q at *
      generalize bx (litF L[i]) = x at *
      have hsep : (bx [44, 32]).size = 2 := rfl
      have hcl : (bx [58, 32]).size = 2 := rfl
      have hq2 : (q ++ bx [44, 32]).size ≤ 100000000002 := by rw [ByteArray.size_append]; omega
      have hq3 : (q ++ kq).size ≤ 100004000002 := by rw [ByteArray.size_append]; omega
      have hq4 : (q ++ bx [44, 32] ++ kq).size ≤ 100004000004 := by rw [ByteArray.size_append]; omega
      have hq5 : (q ++ kq ++ bx [58, 32]).size ≤ 100004000006 := by rw [ByteArray.size_append]; omega
      have hq6 : (q ++ bx [44, 32] ++ kq ++ bx [58, 32]).size ≤ 100004000008 := by rw [ByteArray.size_append]; omega
      by_cases h0 : i = 0
      · have HN : Hid (q ++ (kq ++ bx [58, 32] ++ x) = nx) := HST.out.1 h0
        have hi0 : ¬ (0 : Int) < (i : Int) := by omega
        clear HST h0
        as_aux_lemma =>
        go_wp2_with fail
        refine CQ.out.mono ?_
        rintro e w4 ⟨rfl, hb4⟩
        have HB4 := Lib.hid hb4
        have HBW : Hid (Below W.heap.size W w4) := HB.out.trans (hb4.mono HB.out.size)
        have c4' : w4.cell? ⟨W.heap.size, 4, none⟩ = some (.slice (some ⟨bl, off, none⟩) L.length lc) := cell_of_blk ((hb4.block _ HZ0.out).trans HK0.out) 4
        obtain ⟨e0, e1, e2, e3, e4, e5⟩ := HE.out w4 HBW.out
        have CX := Lib.hid (CC.out w4 HBW.out)
        clear hb4 CQ CC c0 c4 c5 hc1
        go_wp2_with fail
        clear e0 e1 e2 e3 e4 e5
        refine CX.out.mono ?_
        rintro e w5 ⟨rfl, hb5⟩
        have HBF : Hid (Below wr.heap.size wr w5) := HB4.out.trans (hb5.mono HB4.out.size)
        clear hb5 CX
        go_wp2_with fail
        have HNX : Hid (q ++ kq ++ bx [58, 32] ++ x = nx) := by unfold Hid; rw [← HN.out]; simp [ByteArray.append_assoc]; try rfl
        go_roundg (T.length - (i + 1))
        case measure => have := HTL.out; omega
        case rel => exact ⟨i + 1, by rw [HNT.out, ← HNX.out] <;> rfl, by go_num, by have := HTL.out; omega, rfl, HBF.out.block _ HZ0.out |>.trans HK0.out, HB.out.trans (HBF.out.mono HB.out.size)⟩
      · have HN : Hid (q ++ bx [44, 32] ++ (kq ++ bx [58, 32] ++ x) = nx) := HST.out.2 (by omega)
        have hi0 : (0 : Int) < (i : Int) := by omega
        clear HST h0
        as_aux_lemma =>
        go_wp2_with fail
        refine CQ.out.mono ?_
        rintro e w4 ⟨rfl, hb4⟩
        have HB4 := Lib.hid hb4
        have HBW : Hid (Below W.heap.size W w4) := HB.out.trans (hb4.mono HB.out.size)
        have c4' : w4.cell? ⟨W.heap.size, 4, none⟩ = some (.slice (some ⟨bl, off, none⟩) L.length lc) := cell_of_blk ((hb4.block _ HZ0.out).trans HK0.out) 4
        obtain ⟨e0, e1, e2, e3, e4, e5⟩ := HE.out w4 HBW.out
        have CX := Lib.hid (CC.out w4 HBW.out)
        clear hb4 CQ CC c0 c4 c5 hc1
        go_wp2_with fail
        clear e0 e1 e2 e3 e4 e5
        refine CX.out.mono ?_
        rintro e w5 ⟨rfl, hb5⟩
        have HBF : Hid (Below wr.heap.size wr w5) := HB4.out.trans (hb5.mono HB4.out.size)
        clear hb5 CX
        go_wp2_with fail
        have HNX : Hid (q ++ bx [44, 32] ++ kq ++ bx [58, 32] ++ x = nx) := by unfold Hid; rw [← HN.out]; simp [ByteArray.append_assoc]; try rfl
        go_roundg (T.length - (i + 1))
        case measure => have := HTL.out; omega
        case rel => exact ⟨i + 1, by rw [HNT.out, ← HNX.out] <;> rfl, by go_num, by have := HTL.out; omega, rfl, HBF.out.block _ HZ0.out |>.trans HK0.out, HB.out.trans (HBF.out.mono HB.out.size)⟩
    · have hii : ¬ (i : Int) < (L.length : Int) := by omega
      have he : T.take i = T := List.take_of_length_le (by have := HTL.out; omega)
      rw [he] at hpl ⊢
      clear HTG HPL HXL IH HKZ he
      have hz2 : (bx [123] ++ bx (joinT T)).size ≤ 100000000001 := by rw [ByteArray.size_append]; show 1 + _ ≤ _; omega
      have hz1 : (bx [125]).size = 1 := rfl
      have hz0 : (bx [123]).size = 1 := rfl
      generalize bx (joinT T) = q at *
      as_aux_lemma =>
      go_wp2_with fail
      go_ret
      exact ⟨by rw [← HRES.out] <;> rfl, HB.out⟩
end Go.Proofs.YtomecnncighkgaaGreatDoor
/- The reference's literal whole; the walks over its Show and Text. -/
namespace Go.Proofs.YtomecnncighkgaaGreatDoor
open Go.RowKit Go.Deep

theorem rlit_all : ∀ (m : Nat) (lv : Nat) (t : VT), SizeOf.sizeOf t ≤ m → checkF lv t = 0 → (litF t).length ≤ 100000000000 → RLitCalls t
  | 0, _, t, hm, _, _ => by
    cases t
    simp only [VT.mk.sizeOf_spec] at hm
    omega
  | m + 1, lv, .mk k b n s L ks, hm, hc, hl => by
    intro cs W h
    rw [vcell_mk] at h
    obtain ⟨v4, v5, rfl, hs, hL⟩ := h
    obtain ⟨ko, kc, rfl⟩ := hs.form
    obtain ⟨lo, lc, rfl⟩ := vlist_slice hL
    obtain ⟨hn, hcl⟩ := check_zero hc
    obtain ⟨_, hkk0, hkk5, hpl, hi0, hi1, hz, hll, _, hkd⟩ := node_zero hn
    have ih : (k = 4 ∨ k = 5) → (k = 5 → ks.length = L.length) → ∀ t ∈ L, RLitCalls t := fun hk hkl t ht => by
      refine rlit_all m (lv + 1) t (by have := vt_lt (k := k) (b := b) (n := n) (s := s) (ks := ks) ht; omega) (hcl t ht) ?_
      obtain ⟨i, hi, rfl⟩ := List.getElem_of_mem ht
      exact Nat.le_trans ((litF_sub (b := b) (n := n) (s := s) hk hkl).1 i hi) hl
    by_cases k4 : k = 4
    · subst k4
      exact rlit_4 b n s L ks hl hll (fun h => by cases h) (fun x hx => by
        have := (plain_parts hpl).2.2.2.2 (by show (4 : Int) ≠ 5; decide)
        change ks = [] at this
        rw [this] at hx; cases hx) (ih (.inl rfl) (fun h => by cases h)) lo ko lc kc W hL hs
    by_cases k5 : k = 5
    · subst k5
      have hk := keyed_len (hkd rfl)
      exact rlit_5 b n s L ks hl hll (fun _ => hk) (fun x hx => Nat.le_trans (keyed_size (hkd rfl) x hx) (by decide)) (ih (.inr rfl) (fun _ => hk)) lo ko lc kc W hL hs
    change 0 ≤ k at hkk0
    change k ≤ 5 at hkk5
    change -9007199254740992 ≤ n at hi0
    change n ≤ 9007199254740992 at hi1
    change s.size ≤ 4096 at hz
    exact rlit_o k hkk0 (by omega) b n (by omega) (by omega) s (by omega) L ks lo ko L.length lc ks.length kc W
theorem rliteral_any (t : VT) (hv : validF t = 0) (hl : (litF t).length ≤ 100000000000) (v : Value) (W : World) (h : VAt W v t) : Calls Tryz.prog 80 #[v] W fun e w' => e = .returned (.string (bx (litF t))) ∧ Below W.heap.size W w' := by
  obtain ⟨cs, rfl, hc⟩ := h
  exact rlit_all _ 1 t (Nat.le_refl _) hv hl cs W hc

set_option maxRecDepth 100000 in
set_option maxHeartbeats 1600000 in
theorem rshow_any (t : VT) (hwf : t.wf) (hl : validF t = 0 → (litF t).length ≤ 100000000000) (v : Value) (W : World) (h : VAt W v t) : Calls Tryz.prog 49 #[v] W fun e w' => e = .returned (.string (bx (showT t))) ∧ Below W.heap.size W w' := by
  have H := Lib.hid h
  obtain ⟨v4, v5, rfl, hs, hL⟩ := h.open
  obtain ⟨ko, kc, rfl⟩ := hs.form
  obtain ⟨lo, lc, rfl⟩ := vlist_slice hL
  obtain ⟨W1, hW1⟩ : ∃ W1, W.alloc (.cells #[.int .i64 t.kind, .bool t.bool, .int .i64 t.int, .string t.str, .slice lo t.list.length lc, .slice ko t.keys.length kc] 46 (0, 0)) = W1 := ⟨_, rfl⟩
  have hk0 : W1.heap[W.heap.size]? = some (.cells #[.int .i64 t.kind, .bool t.bool, .int .i64 t.int, .string t.str, .slice lo t.list.length lc, .slice ko t.keys.length kc] 46 (0, 0)) := by rw [← hW1]; exact hp_new rfl
  have HB1 : Hid (Below W.heap.size W W1) := by unfold Hid; rw [← hW1]; exact (Below.refl _ W).alloc (Nat.le_refl _) _
  have VC := Lib.hid (rvalid_any _ t W1 (H.out.below HB1.out) hwf)
  have LC : Hid (∀ W', Below W1.heap.size W1 W' → validF t = 0 → Calls Tryz.prog 80 #[.agg #[.int .i64 t.kind, .bool t.bool, .int .i64 t.int, .string t.str, .slice lo t.list.length lc, .slice ko t.keys.length kc]] W' fun e w' => e = .returned (.string (bx (litF t))) ∧ Below W'.heap.size W' w') := fun W' hb hv =>
    rliteral_any t hv (hl hv) _ W' ((H.out.below HB1.out).below hb)
  have HS : Hid (showT t = if validF t = 0 then litF t else []) := rfl
  generalize showT t = r at *
  generalize litF t = x at *
  have HZ : Hid (W.heap.size < W1.heap.size) := (Array.getElem?_eq_some_iff.1 hk0).1
  have HKK : Hid (∀ W', Below W1.heap.size W1 W' → W'.heap[W.heap.size]? = some (.cells #[.int .i64 t.kind, .bool t.bool, .int .i64 t.int, .string t.str, .slice lo t.list.length lc, .slice ko t.keys.length kc] 46 (0, 0))) := fun W' hb => (hb.block _ HZ.out).trans hk0
  generalize t.kind = q0 at *
  generalize t.bool = q1 at *
  generalize t.int = q2 at *
  generalize t.str = q3 at *
  generalize t.list.length = q4 at *
  generalize t.keys.length = q5 at *
  have d0 : W1.cell? ⟨W.heap.size, 0, none⟩ = some (.int .i64 q0) := cell_of_blk hk0 0
  have d1 : W1.cell? ⟨W.heap.size, 1, none⟩ = some (.bool q1) := cell_of_blk hk0 1
  have d2 : W1.cell? ⟨W.heap.size, 2, none⟩ = some (.int .i64 q2) := cell_of_blk hk0 2
  have d3 : W1.cell? ⟨W.heap.size, 3, none⟩ = some (.string q3) := cell_of_blk hk0 3
  have d4 : W1.cell? ⟨W.heap.size, 4, none⟩ = some (.slice lo q4 lc) := cell_of_blk hk0 4
  have d5 : W1.cell? ⟨W.heap.size, 5, none⟩ = some (.slice ko q5 kc) := cell_of_blk hk0 5
  generalize validF t = e at *
  clear H hs hL hk0 h hl hwf
  go_enter Tryz.func49, Tryz.ntmps49
  go_wp2_with fail
  clear hW1
  refine VC.out.mono ?_
  rintro e' w4 ⟨rfl, hb4⟩
  clear d0 d1 d2 d3 d4 d5
  have hk := HKK.out w4 hb4
  have d0 : w4.cell? ⟨W.heap.size, 0, none⟩ = some (.int .i64 q0) := cell_of_blk hk 0
  have d1 : w4.cell? ⟨W.heap.size, 1, none⟩ = some (.bool q1) := cell_of_blk hk 1
  have d2 : w4.cell? ⟨W.heap.size, 2, none⟩ = some (.int .i64 q2) := cell_of_blk hk 2
  have d3 : w4.cell? ⟨W.heap.size, 3, none⟩ = some (.string q3) := cell_of_blk hk 3
  have d4 : w4.cell? ⟨W.heap.size, 4, none⟩ = some (.slice lo q4 lc) := cell_of_blk hk 4
  have d5 : w4.cell? ⟨W.heap.size, 5, none⟩ = some (.slice ko q5 kc) := cell_of_blk hk 5
  have HB4 : Hid (Below W.heap.size W w4) := HB1.out.trans (hb4.mono HB1.out.size)
  by_cases he : e = 0
  · have CL := Lib.hid (LC.out w4 hb4 he)
    have HX : Hid (r = x) := by have := HS.out; rw [if_pos he] at this; exact this
    subst he
    clear LC HS HKK VC hk hb4
    as_aux_lemma =>
    go_wp2_with fail
    refine CL.out.mono ?_
    rintro e' w5 ⟨rfl, hb5⟩
    have HB5 : Hid (Below W.heap.size W w5) := HB4.out.trans (hb5.mono HB4.out.size)
    clear hb5 CL
    go_wp2_with fail
    go_ret
    exact ⟨by rw [HX.out] <;> rfl, HB5.out⟩
  · have HX : Hid (r = []) := by have := HS.out; rw [if_neg he] at this; exact this
    have hne : ((e : Int) == 0) = false := by rw [beq_eq_false_iff_ne]; omega
    have hne2 : ((e : Int) != 0) = true := by simp [bne, hne]
    clear LC HS HKK VC hk hb4 he
    as_aux_lemma =>
    go_wp2_with fail
    go_ret
    exact ⟨by rw [HX.out] <;> rfl, HB4.out⟩

end Go.Proofs.YtomecnncighkgaaGreatDoor
