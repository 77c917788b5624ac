/- The walks over slices.Index at strings and over value.Get. -/
import Derived.Test.YtbndgmbjfgmdnaaGreatDoorVq1
namespace Go.Proofs.YtbndgmbjfgmdnaaGreatDoor
open Go.RowKit Go.Deep

theorem bytes_beq0 {x y : ByteArray} (h : (x.toList == y.toList) = true) : x = y := by
  rw [beq_iff_eq, Lib.toList_data, Lib.toList_data] at h
  exact bytes_ext h
def idxI : Option Nat → Int
  | some i => (i : Nat)
  | none => -1
theorem keyPl_end (key : ByteArray) (ks : List ByteArray) : keyPl key (ks.drop ks.length) = none := by rw [List.drop_length]; rfl
theorem keyPl_step {key : ByteArray} {ks : List ByteArray} {i : Nat} (h : i < ks.length) (hk : keyPl key ks = (keyPl key (ks.drop i)).map (· + i)) :
    (ks[i] = key → keyPl key ks = some i) ∧ (ks[i] ≠ key → keyPl key ks = (keyPl key (ks.drop (i + 1))).map (· + (i + 1))) := by
  rw [List.drop_eq_getElem_cons h, keyPl] at hk
  refine ⟨fun e => ?_, fun e => ?_⟩
  · rw [if_pos e] at hk
    rw [hk]; simp
  · rw [if_neg e] at hk
    rw [hk, Option.map_map]
    congr 1
    funext x
    show x + 1 + i = x + (i + 1)
    omega
def IxRel (key : ByteArray) (ks : List ByteArray) (w1 : World) (f : Nat) (t8 : Value) (wr : World) : Prop :=
  ∃ i : Nat, t8 = .int .i64 (i : Nat) ∧ i ≤ ks.length ∧ f = ks.length - i ∧ keyPl key ks = (keyPl key (ks.drop i)).map (· + i) ∧ wr = w1

set_option maxRecDepth 100000 in
set_option maxHeartbeats 1600000 in
theorem index_any (key : ByteArray) (ks : List ByteArray) (ko : Option Addr) (kc : Nat) (hl : ks.length ≤ 9223372036854775807) (w : World) (h : StrsAt w (.slice ko ks.length kc) ks) :
    Calls Tryz.prog 52 #[.slice ko ks.length kc, .string key] w fun e w' => e = .returned (.int .i64 (idxI (keyPl key ks))) ∧ w' = w := by
  have H := Lib.hid h
  clear h
  go_enter Tryz.func52, Tryz.ntmps52
  go_wp2_with fail
  go_loopg [8] ks.length (IxRel key ks w)
  case atStart => exact ⟨0, rfl, Nat.zero_le _, rfl, by simp, rfl⟩
  case round =>
    obtain ⟨i, rfl, hi, rfl, hk, rfl⟩ := hrel
    have HK := Lib.hid hk
    clear hk
    by_cases hlt : i < ks.length
    · obtain ⟨b1, o1, rfl, _, hc1⟩ := H.out.at_ hlt
      have hii : (i : Int) < (ks.length : Int) := by omega
      rw [getD_at hlt] at hc1
      have HS := Lib.hid (keyPl_step hlt HK.out)
      generalize ks[i] = x at *
      by_cases hx : x = key
      · have HN := Lib.hid (HS.out.1 hx)
        subst hx
        have t1 : (x.toList == x.toList) = true := by simp
        clear HS HK
        as_aux_lemma =>
        go_wp2_with fail
        go_ret
        exact ⟨by rw [HN.out] <;> rfl, rfl⟩
      · have HN := Lib.hid (HS.out.2 hx)
        have t1 : (key.toList == x.toList) = false := by rw [Bool.eq_false_iff]; exact fun h => hx (bytes_beq0 h).symm
        clear HS HK hx
        as_aux_lemma =>
        go_wp2_with fail
        go_roundg (ks.length - (i + 1))
        case measure => omega
        case rel => exact ⟨i + 1, by go_num, by omega, rfl, HN.out, rfl⟩
    · have hii : ¬ (i : Int) < (ks.length : Int) := by omega
      have he : i = ks.length := by omega
      have HN : Hid (keyPl key ks = none) := by unfold Hid; rw [HK.out, he, keyPl_end]; rfl
      clear HK he
      go_wp2_with fail
      go_ret
      exact ⟨by rw [HN.out] <;> rfl, rfl⟩

def GetPost (t : VT) (key : ByteArray) (w : World) (e : Ending) (w' : World) : Prop :=
  ∃ v, e = .returned (.tuple #[v, .bool (getF t key).isSome]) ∧ VAt w' v ((getF t key).getD VT.zero) ∧ Below w.heap.size w w'
theorem zero_at (w : World) : VAt w (.agg #[.int .i64 0, .bool false, .int .i64 0, .string ⟨#[]⟩, .slice none 0 0, .slice none 0 0]) VT.zero :=
  ⟨_, rfl, vcell_mk.2 ⟨_, _, rfl, .inl ⟨none, 0, rfl, rfl⟩, .inl ⟨none, 0, rfl, rfl⟩⟩⟩

set_option maxRecDepth 100000 in
set_option maxHeartbeats 3200000 in
theorem vget_any (t : VT) (key : ByteArray) (hwf : t.wf) (hf : t.fit) (v : Value) (W : World) (h : VAt W v t) : Calls Tryz.prog 25 #[v, .string key] W (GetPost t key W) := by
  obtain ⟨v4, v5, rfl, hs, hL⟩ := h.open
  obtain ⟨_, _, _, hl, hkl, _, _⟩ := VT.wf_parts hwf
  have hfl := (VT.fit_parts hf).2.2
  obtain ⟨ko, kc, rfl⟩ := hs.form
  obtain ⟨lo, lc, rfl⟩ := vlist_slice hL
  have HGF : Hid (getF t key = if t.kind = 5 then (keyPl key t.keys).bind fun i => t.list[i]? else none) := rfl
  generalize hkk : t.kind = k at *
  generalize t.bool = b at *
  generalize t.int = n at *
  generalize t.str = s at *
  generalize hLL : t.list = L at *
  generalize hKK : t.keys = ks at *
  obtain ⟨W1, hW1⟩ : ∃ W1, W.alloc (.cells #[.int .i64 k, .bool b, .int .i64 n, .string s, .slice lo L.length lc, .slice ko ks.length kc] 25 (0, 0)) = W1 := ⟨_, rfl⟩
  obtain ⟨W2, hW2⟩ : ∃ W2, W1.alloc (.cells #[.int .i64 0, .bool false, .int .i64 0, .string ⟨#[]⟩, .slice none 0 0, .slice none 0 0] 25 (0, 0)) = W2 := ⟨_, rfl⟩
  have hs1 : W1.heap.size = W.heap.size + 1 := by rw [← hW1]; simp
  have hk0 : W2.heap[W.heap.size]? = some (.cells #[.int .i64 k, .bool b, .int .i64 n, .string s, .slice lo L.length lc, .slice ko ks.length kc] 25 (0, 0)) := by rw [← hW2]; exact (hp_old (by omega)).trans (by rw [← hW1]; exact hp_new rfl)
  have hk1 : W2.heap[W.heap.size + 1]? = some (.cells #[.int .i64 0, .bool false, .int .i64 0, .string ⟨#[]⟩, .slice none 0 0, .slice none 0 0] 25 (0, 0)) := by rw [← hW2]; exact hp_new (by omega)
  have HB : Hid (Below W.heap.size W W2) := by unfold Hid; rw [← hW2, ← hW1]; exact ((Below.refl _ W).alloc (Nat.le_refl _) _).alloc (by simp) _
  have HK1 := Lib.hid hk1
  have HL := Lib.hid (hL.below HB.out)
  have IX := Lib.hid (index_any key ks ko kc hkl W2 (hs.below HB.out))
  have g0 : W2.cell? ⟨W.heap.size, 0, none⟩ = some (.int .i64 k) := cell_of_blk hk0 0
  have g4 : W2.cell? ⟨W.heap.size, 4, none⟩ = some (.slice lo L.length lc) := cell_of_blk hk0 4
  have g5 : W2.cell? ⟨W.heap.size, 5, none⟩ = some (.slice ko ks.length kc) := cell_of_blk hk0 5
  have HFL := Lib.hid hfl
  have HLT : Hid (W.heap.size + 1 < W2.heap.size) := (Array.getElem?_eq_some_iff.1 hk1).1
  clear hk0 hk1 hs hL hwf hf hkk hLL hKK hfl h
  by_cases hk5 : k = 5
  · rw [if_pos hk5] at HGF
    have t5 : (k == 5) = true := by rw [hk5]; rfl
    have t5b : (k != 5) = false := by rw [hk5]; rfl
    clear hk5
    cases hkp : keyPl key ks with
    | none =>
      rw [hkp] at IX HGF
      dsimp only [idxI] at IX
      have HN : Hid (getF t key = none) := HGF.out
      clear HGF HL HFL hkp
      as_aux_lemma =>
      go_enter Tryz.func25, Tryz.ntmps25
      go_wp2_with fail
      refine IX.out.mono ?_
      rintro e w1 ⟨rfl, hw⟩
      rw [hw]
      clear hw w1 IX
      go_wp2_with (refine wpList_store_row rfl 25 _ _ rfl (W.heap.size + 1) rfl 25 _ HK1.out (.agg #[.int .i64 0, .bool false, .int .i64 0, .string ⟨#[]⟩, .slice none 0 0, .slice none 0 0]) rfl (by kernel_rfl) rfl rfl ?_)
      intro w7 hw7
      have HW7 := Lib.hid hw7
      have HB7 := Lib.hid (HB.out.trans (hw7.below (by omega)))
      clear hw7
      go_wp2_with fail
      exact bodyPost_ret (results_row_tmp rfl _ _ (W.heap.size + 1) 25 _ (0, 0) _ rfl HW7.out.at_ Tryz.underlying25 rfl (by kernel_rfl)) rfl ⟨_, by rw [HN.out] <;> rfl, by rw [HN.out]; exact zero_at _, HB7.out⟩
    | some i =>
      rw [hkp] at IX HGF
      dsimp only [idxI] at IX
      have hik : i < ks.length := (keyPl_lt hkp).1
      clear hkp
      by_cases hil : i < L.length
      · have HN : Hid (getF t key = some L[i]) := by unfold Hid; rw [HGF.out]; show L[i]? = _; rw [List.getElem?_eq_getElem hil]
        have hii : (i : Int) < (L.length : Int) := by omega
        have hi0 : ¬ ((i : Int) < 0) := by omega
        have hi0d : decide ((i : Int) < 0) = false := decide_eq_false hi0
        have hig : decide ((L.length : Int) ≤ (i : Int)) = false := decide_eq_false (by omega)
        have hign : decide (L.length ≤ i) = false := decide_eq_false (by omega)
        obtain ⟨bl, off, ce, rfl, hbl, hce, hvc⟩ := HL.out.at hil
        obtain ⟨k1, c1, n1, s1, lo1, ln1, lc1, ko1, kn1, kc1, rfl⟩ := vcell_slices0 hvc
        have CC := Lib.hid (vclone_any L[i] (HFL.out _ (List.getElem_mem hil)) _ W2 ⟨_, rfl, hvc⟩)
        have e0 := hce 0 _ rfl
        have e1 := hce 1 _ rfl
        have e2 := hce 2 _ rfl
        have e3 := hce 3 _ rfl
        have e4 := hce 4 _ rfl
        have e5 := hce 5 _ rfl
        rw [Nat.add_zero] at e0
        clear hce hvc HGF HL HFL
        generalize L[i] = x at *
        as_aux_lemma =>
        go_enter Tryz.func25, Tryz.ntmps25
        go_wp2_with fail
        refine IX.out.mono ?_
        rintro e w1 ⟨rfl, hw⟩
        rw [hw]
        clear hw w1 IX
        go_wp2_with fail
        refine CC.out.mono ?_
        rintro e w5 ⟨u, rfl, hu, hb5⟩
        obtain ⟨lo6, lc6, ko6, kc6, rfl, _, _⟩ := hu.open
        have HU := Lib.hid hu
        have HK5 := Lib.hid ((hb5.block _ HLT.out).trans HK1.out)
        have HB5 := Lib.hid (HB.out.trans (hb5.mono HB.out.size))
        have HLE := Lib.hid hb5.size
        clear hu hb5 CC
        go_wp2_with (refine wpList_store_row rfl 25 _ _ rfl (W.heap.size + 1) rfl 25 _ HK5.out (.agg #[.int .i64 x.kind, .bool x.bool, .int .i64 x.int, .string x.str, .slice lo6 x.list.length lc6, .slice ko6 x.keys.length kc6]) rfl (by kernel_rfl) rfl rfl ?_)
        intro w7 hw7
        have HW7 := Lib.hid hw7
        have HB7 := Lib.hid (HB5.out.trans (hw7.below (by omega)))
        have HV7 : Hid (VAt w7 (.agg #[.int .i64 x.kind, .bool x.bool, .int .i64 x.int, .string x.str, .slice lo6 x.list.length lc6, .slice ko6 x.keys.length kc6]) x) := by
          obtain ⟨cs, h1, h2⟩ := HU.out
          exact VAtB.at_ ⟨cs, h1, VCellB.keep (Nat.le_of_eq hw7.size.symm) (fun c hc _ => hw7.block c (by have := HLT.out; omega)) _ _ h2⟩
        clear hw7 HU HK5
        go_wp2_with fail
        exact bodyPost_ret (results_row_tmp rfl _ _ (W.heap.size + 1) 25 _ (0, 0) _ rfl HW7.out.at_ Tryz.underlying25 rfl (by kernel_rfl)) rfl ⟨_, by rw [HN.out] <;> rfl, by rw [HN.out]; exact HV7.out, HB7.out⟩
      · have HN : Hid (getF t key = none) := by unfold Hid; rw [HGF.out]; show L[i]? = _; rw [List.getElem?_eq_none (by omega)]
        have hi0 : ¬ ((i : Int) < 0) := by omega
        have hi0d : decide ((i : Int) < 0) = false := decide_eq_false hi0
        have hig : (L.length : Int) ≤ (i : Int) := by omega
        have hign : L.length ≤ i := by omega
        clear HGF HL HFL
        as_aux_lemma =>
        go_enter Tryz.func25, Tryz.ntmps25
        go_wp2_with fail
        refine IX.out.mono ?_
        rintro e w1 ⟨rfl, hw⟩
        rw [hw]
        clear hw w1 IX
        go_wp2_with (refine wpList_store_row rfl 25 _ _ rfl (W.heap.size + 1) rfl 25 _ HK1.out (.agg #[.int .i64 0, .bool false, .int .i64 0, .string ⟨#[]⟩, .slice none 0 0, .slice none 0 0]) rfl (by kernel_rfl) rfl rfl ?_)
        intro w7 hw7
        have HW7 := Lib.hid hw7
        have HB7 := Lib.hid (HB.out.trans (hw7.below (by omega)))
        clear hw7
        go_wp2_with fail
        exact bodyPost_ret (results_row_tmp rfl _ _ (W.heap.size + 1) 25 _ (0, 0) _ rfl HW7.out.at_ Tryz.underlying25 rfl (by kernel_rfl)) rfl ⟨_, by rw [HN.out] <;> rfl, by rw [HN.out]; exact zero_at _, HB7.out⟩
  · rw [if_neg hk5] at HGF
    have HN : Hid (getF t key = none) := HGF.out
    have t5 : (k == 5) = false := by rw [beq_eq_false_iff_ne]; exact hk5
    have t5b : (k != 5) = true := by simp [bne, t5]
    generalize idxI (keyPl key ks) = q at *
    clear HGF HL HFL hk5
    as_aux_lemma =>
    go_enter Tryz.func25, Tryz.ntmps25
    go_wp2_with fail
    refine IX.out.mono ?_
    rintro e w1 ⟨rfl, hw⟩
    rw [hw]
    clear hw w1 IX
    go_wp2_with (refine wpList_store_row rfl 25 _ _ rfl (W.heap.size + 1) rfl 25 _ HK1.out (.agg #[.int .i64 0, .bool false, .int .i64 0, .string ⟨#[]⟩, .slice none 0 0, .slice none 0 0]) rfl (by kernel_rfl) rfl rfl ?_)
    intro w7 hw7
    have HW7 := Lib.hid hw7
    have HB7 := Lib.hid (HB.out.trans (hw7.below (by omega)))
    clear hw7
    go_wp2_with fail
    exact bodyPost_ret (results_row_tmp rfl _ _ (W.heap.size + 1) 25 _ (0, 0) _ rfl HW7.out.at_ Tryz.underlying25 rfl (by kernel_rfl)) rfl ⟨_, by rw [HN.out] <;> rfl, by rw [HN.out]; exact zero_at _, HB7.out⟩
end Go.Proofs.YtbndgmbjfgmdnaaGreatDoor
