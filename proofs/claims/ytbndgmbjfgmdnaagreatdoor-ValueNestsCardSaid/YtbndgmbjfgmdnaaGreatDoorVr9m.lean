/- Entries inserted in order, as the reference's 'with' does it; two lists that grow in one struct. -/
import Derived.Test.YtbndgmbjfgmdnaaGreatDoorVq9
import Derived.Test.YtbndgmbjfgmdnaaGreatDoorVq2
import Derived.Test.YtbndgmbjfgmdnaaGreatDoorVq4
import Derived.Test.YtbndgmbjfgmdnaaGreatDoorVq1
namespace Go.Proofs.YtbndgmbjfgmdnaaGreatDoor
open Go.RowKit Go.Deep

/-- one round: has the new entry its place yet; the entries so far -/
def stepW (x : VR) (p : Bool × List VR) (y : VR) : Bool × List VR :=
  if p.1 then (true, p.2 ++ [y]) else if natC (nmR x) (nmR y) < 0 then (true, p.2 ++ [x] ++ [y]) else (false, p.2 ++ [y])
theorem foldW_true (x : VR) : ∀ (l acc : List VR), l.foldl (stepW x) (true, acc) = (true, acc ++ l)
  | [], acc => by simp
  | y :: l, acc => by
    rw [List.foldl_cons, show stepW x (true, acc) y = (true, acc ++ [y]) from rfl, foldW_true x l, List.append_assoc]
    rfl
theorem foldW_ins (x : VR) : ∀ (l acc : List VR), (if (l.foldl (stepW x) (false, acc)).1 then (l.foldl (stepW x) (false, acc)).2 else (l.foldl (stepW x) (false, acc)).2 ++ [x]) = acc ++ insN nmR x l
  | [], acc => rfl
  | y :: l, acc => by
    rw [List.foldl_cons, insN]
    by_cases h : natC (nmR x) (nmR y) < 0
    · rw [show stepW x (false, acc) y = (true, acc ++ [x] ++ [y]) by unfold stepW; rw [if_neg (by simp), if_pos h], foldW_true, if_pos h]
      simp
    · rw [show stepW x (false, acc) y = (false, acc ++ [y]) by unfold stepW; rw [if_neg (by simp), if_neg h], foldW_ins x l, if_neg h]
      simp
def foldW (x : VR) (l : List VR) (i : Nat) : Bool × List VR := (l.take i).foldl (stepW x) (false, [])
theorem foldW_succ (x : VR) (l : List VR) (i : Nat) (h : i < l.length) : foldW x l (i + 1) = stepW x (foldW x l i) l[i] := by
  unfold foldW
  rw [List.take_succ_eq_append_getElem h, List.foldl_append]
  rfl
theorem foldW_len (x : VR) (l : List VR) : ∀ i, i ≤ l.length → (foldW x l i).2.length = i + (if (foldW x l i).1 then 1 else 0)
  | 0, _ => rfl
  | i + 1, h => by
    have ih := foldW_len x l i (by omega)
    rw [foldW_succ x l i (by omega)]
    unfold stepW
    by_cases h1 : (foldW x l i).1 = true
    · rw [if_pos h1] at ih ⊢
      rw [List.length_append, ih]; rfl
    · rw [if_neg h1] at ih ⊢
      split
      · rw [List.length_append, List.length_append, ih]; rfl
      · rw [List.length_append, ih]; rfl
/-- a map under way in the block D: its keys and its values, the values' parts below D and where C says -/
structure TwSt (D : Nat) (C : Nat → Prop) (KS : List ByteArray) (VS : List VT) (kv lv : Value) (w : World) : Prop where
  blk : w.heap[D]? = some (.cells #[.int .i64 5, .bool false, .int .i64 0, .string ⟨#[]⟩, lv, kv] 25 (0, 0))
  ks : EStr.Own 9 (D + 1) (fun _ => False) w KS kv
  vs : EVal.Own 25 (D + 1) C w VS lv
  ne : ∀ b, kv.ownBlock = some b → lv.ownBlock ≠ some b
  le : ∀ b, C b → b < D
theorem TwSt.below {D : Nat} {C : Nat → Prop} {KS : List ByteArray} {VS : List VT} {kv lv : Value} {w w1 : World} (h : TwSt D C KS VS kv lv w) (hb : Below w.heap.size w w1) : TwSt D C KS VS kv lv w1 :=
  ⟨(hb.block D (Array.getElem?_eq_some_iff.1 h.blk).1).trans h.blk, h.ks.below hb, h.vs.below hb, h.ne, h.le⟩
theorem TwSt.key {D n : Nat} {C : Nat → Prop} {KS : List ByteArray} {VS : List VT} {nm : ByteArray} {kv kv' lv : Value} {w w1 w2 : World} (h : TwSt D C KS VS kv lv w) (hown : EStr.Own 9 (D + 1) (fun _ => False) w1 (KS ++ [nm]) kv')
    (hg : w.grownBy w1 kv.ownBlock) (hp : Pushed kv n w.heap.size kv') (hw : Wrote D (.cells #[.int .i64 5, .bool false, .int .i64 0, .string ⟨#[]⟩, lv, kv'] 25 (0, 0)) w1 w2) : TwSt D C (KS ++ [nm]) VS kv' lv w2 := by
  have hkv := ownBlock_low hown (show D < D + 1 by omega)
  have hlv := ownBlock_low h.vs (show D < D + 1 by omega)
  have hvs : EVal.Own 25 (D + 1) C w1 VS lv := by
    refine h.vs.kept hg ?_ fun b hb _ e => by have := (h.ks.low b e.symm).1; have := h.le b hb; omega
    cases hl : lv.ownBlock with
    | none => exact .inl rfl
    | some b => exact .inr fun e => h.ne b e.symm hl
  refine ⟨hw.at_, hown.wrote hw hkv (fun c hc => hc.elim), hvs.wrote hw hlv (fun c hc => by have := h.le c hc; omega), fun b hb e => ?_, h.le⟩
  obtain ⟨g, cap, rfl, hat⟩ := hp
  have hb : g = b := Option.some.inj hb
  subst hb
  rcases hat with h1 | h1
  · exact h.ne g h1 e
  · have := (h.vs.low g e).2; omega
theorem TwSt.val {D n : Nat} {C : Nat → Prop} {KS : List ByteArray} {VS : List VT} {x : VT} {kv lv lv' : Value} {w w1 w2 : World} (h : TwSt D C KS VS kv lv w) (hown : EVal.Own 25 (D + 1) C w1 (VS ++ [x]) lv')
    (hg : w.grownBy w1 lv.ownBlock) (hp : Pushed lv n w.heap.size lv') (hw : Wrote D (.cells #[.int .i64 5, .bool false, .int .i64 0, .string ⟨#[]⟩, lv', kv] 25 (0, 0)) w1 w2) : TwSt D C KS (VS ++ [x]) kv lv' w2 := by
  have hlv := ownBlock_low hown (show D < D + 1 by omega)
  have hkv := ownBlock_low h.ks (show D < D + 1 by omega)
  refine ⟨hw.at_, (h.ks.kept hg ?_ fun b hb => hb.elim).wrote hw hkv (fun c hc => hc.elim), hown.wrote hw hlv (fun c hc => by have := h.le c hc; omega), fun b hb e => ?_, h.le⟩
  · cases hl : kv.ownBlock with
    | none => exact .inl rfl
    | some b => exact .inr fun e => h.ne b hl e.symm
  · obtain ⟨g, cap, rfl, hat⟩ := hp
    have e : g = b := Option.some.inj e
    subst e
    rcases hat with h1 | h1
    · exact h.ne g hb h1
    · have := (h.ks.low g hb).2; omega
end Go.Proofs.YtbndgmbjfgmdnaaGreatDoor
/- The walk over the reference's Get. -/
namespace Go.Proofs.YtbndgmbjfgmdnaaGreatDoor
open Go.RowKit Go.Deep

def GgRel (key : ByteArray) (ks : List ByteArray) (w1 : World) (f : Nat) (t6 : Value) (wr : World) : Prop :=
  ∃ i : Nat, t6 = .int .i64 (i : Nat) ∧ i ≤ ks.length ∧ f = ks.length - i ∧ keyPl key ks = (keyPl key (ks.drop i)).map (· + i) ∧ wr = w1

set_option maxRecDepth 100000 in
set_option maxHeartbeats 3200000 in
theorem rget_any (t : VT) (key : ByteArray) (hf : t.fit) (v : Value) (W : World) (h : VAt W v t) : Calls Tryz.prog 26 #[v, .string key] W (GetPost t key W) := by
  obtain ⟨v4, v5, rfl, hs, hL⟩ := h.open
  obtain ⟨hl88, hk16, _⟩ := VT.fit_parts hf
  obtain ⟨ko, kc, rfl⟩ := hs.form
  obtain ⟨lo, lc, rfl⟩ := vlist_slice hL
  have HGF : Hid (getF t key = if t.kind = 5 then (keyPl key t.keys).bind fun i => t.list[i]? else none) := rfl
  generalize hkk : t.kind = k at *
  generalize t.bool = b at *
  generalize t.int = n at *
  generalize t.str = s at *
  generalize hLL : t.list = L at *
  generalize hKK : t.keys = ks at *
  obtain ⟨W1, hW1⟩ : ∃ W1, W.alloc (.cells #[.int .i64 k, .bool b, .int .i64 n, .string s, .slice lo L.length lc, .slice ko ks.length kc] 25 (0, 0)) = W1 := ⟨_, rfl⟩
  obtain ⟨W2, hW2⟩ : ∃ W2, W1.alloc (.cells #[.int .i64 0, .bool false, .int .i64 0, .string ⟨#[]⟩, .slice none 0 0, .slice none 0 0] 25 (0, 0)) = W2 := ⟨_, rfl⟩
  have hs1 : W1.heap.size = W.heap.size + 1 := by rw [← hW1]; simp
  have hk0 : W2.heap[W.heap.size]? = some (.cells #[.int .i64 k, .bool b, .int .i64 n, .string s, .slice lo L.length lc, .slice ko ks.length kc] 25 (0, 0)) := by rw [← hW2]; exact (hp_old (by omega)).trans (by rw [← hW1]; exact hp_new rfl)
  have hk1 : W2.heap[W.heap.size + 1]? = some (.cells #[.int .i64 0, .bool false, .int .i64 0, .string ⟨#[]⟩, .slice none 0 0, .slice none 0 0] 25 (0, 0)) := by rw [← hW2]; exact hp_new (by omega)
  have HB : Hid (Below W.heap.size W W2) := by unfold Hid; rw [← hW2, ← hW1]; exact ((Below.refl _ W).alloc (Nat.le_refl _) _).alloc (by simp) _
  have HK1 := Lib.hid hk1
  have HL := Lib.hid hL
  have HKS := Lib.hid (hs.below HB.out)
  have g0 : W2.cell? ⟨W.heap.size, 0, none⟩ = some (.int .i64 k) := cell_of_blk hk0 0
  have g4 : W2.cell? ⟨W.heap.size, 4, none⟩ = some (.slice lo L.length lc) := cell_of_blk hk0 4
  have g5 : W2.cell? ⟨W.heap.size, 5, none⟩ = some (.slice ko ks.length kc) := cell_of_blk hk0 5
  have HLT : Hid (W.heap.size + 1 < W2.heap.size) := (Array.getElem?_eq_some_iff.1 hk1).1
  have HZERO : Hid (∀ w7, Wrote (W.heap.size + 1) (.cells #[.int .i64 0, .bool false, .int .i64 0, .string ⟨#[]⟩, .slice none 0 0, .slice none 0 0] 25 (0, 0)) W2 w7 → getF t key = none → GetPost t key W (.returned (.tuple #[.agg #[.int .i64 0, .bool false, .int .i64 0, .string ⟨#[]⟩, .slice none 0 0, .slice none 0 0], .bool false])) w7) := fun w7 hw hN => ⟨_, by rw [hN] <;> rfl, by rw [hN]; exact zero_at _, HB.out.trans (hw.below (by omega))⟩
  clear hk0 hk1 hs hL hf hkk hLL hKK h
  by_cases hk5 : k = 5
  · rw [if_pos hk5] at HGF
    subst hk5
    go_enter Tryz.func26, Tryz.ntmps26
    go_wp2_with fail
    clear hW1 hW2
    go_loopg [6] ks.length (GgRel key ks W2)
    case atStart => exact ⟨0, rfl, Nat.zero_le _, rfl, by simp, rfl⟩
    case round =>
      obtain ⟨i, rfl, hi, rfl, hk, rfl⟩ := hrel
      have HK := Lib.hid hk
      clear hk
      by_cases hlt : i < ks.length
      · obtain ⟨b1, o1, rfl, _, hc1⟩ := HKS.out.at_ hlt
        have hii : (i : Int) < (ks.length : Int) := by omega
        rw [getD_at hlt] at hc1
        have HS := Lib.hid (keyPl_step hlt HK.out)
        generalize ks[i] = x at *
        by_cases hx : x = key
        · have HN := Lib.hid (HS.out.1 hx)
          have HG : Hid (getF t key = L[i]?) := by unfold Hid; rw [HGF.out, HN.out]; rfl
          subst hx
          clear HS HK HGF HN
          by_cases hil : i < L.length
          · have HN : Hid (getF t x = some L[i]) := by unfold Hid; rw [HG.out, List.getElem?_eq_getElem hil]
            have hij : (i : Int) < (L.length : Int) := by omega
            have hig : decide ((L.length : Int) ≤ (i : Int)) = false := decide_eq_false (by omega)
            have hign : decide (L.length ≤ i) = false := decide_eq_false (by omega)
            obtain ⟨bl, off, ce, rfl, hbl, hce, hvc⟩ := HL.out.at hil
            obtain ⟨k1, c1, n1, s1, lo1, ln1, lc1, ko1, kn1, kc1, rfl⟩ := vcell_slices0 hvc
            have e0 := (HB.out.cell (p := ⟨bl, off + i * 6 + 0, none⟩) hbl).trans (hce 0 _ rfl)
            have e1 := (HB.out.cell (p := ⟨bl, off + i * 6 + 1, none⟩) hbl).trans (hce 1 _ rfl)
            have e2 := (HB.out.cell (p := ⟨bl, off + i * 6 + 2, none⟩) hbl).trans (hce 2 _ rfl)
            have e3 := (HB.out.cell (p := ⟨bl, off + i * 6 + 3, none⟩) hbl).trans (hce 3 _ rfl)
            have e4 := (HB.out.cell (p := ⟨bl, off + i * 6 + 4, none⟩) hbl).trans (hce 4 _ rfl)
            have e5 := (HB.out.cell (p := ⟨bl, off + i * 6 + 5, none⟩) hbl).trans (hce 5 _ rfl)
            rw [Nat.add_zero] at e0
            have HFIN : Hid (∀ w7, Wrote (W.heap.size + 1) (.cells #[.int .i64 k1, .bool c1, .int .i64 n1, .string s1, .slice lo1 ln1 lc1, .slice ko1 kn1 kc1] 25 (0, 0)) wr w7 → GetPost t x W (.returned (.tuple #[.agg #[.int .i64 k1, .bool c1, .int .i64 n1, .string s1, .slice lo1 ln1 lc1, .slice ko1 kn1 kc1], .bool true])) w7) := fun w7 hw => ⟨_, by rw [HN.out] <;> rfl, by
              have h0 : VAt w7 (.agg #[.int .i64 k1, .bool c1, .int .i64 n1, .string s1, .slice lo1 ln1 lc1, .slice ko1 kn1 kc1]) L[i] := VAt.below ⟨_, rfl, hvc⟩ (HB.out.trans (hw.below (by omega)))
              rw [HN.out]; exact h0, HB.out.trans (hw.below (by omega))⟩
            clear hce hvc HG HL HZERO HN
            generalize L[i] = y at *
            as_aux_lemma =>
            go_wp2_with (refine wpList_store_row rfl 25 _ _ rfl (W.heap.size + 1) rfl 25 _ HK1.out (.agg #[.int .i64 k1, .bool c1, .int .i64 n1, .string s1, .slice lo1 ln1 lc1, .slice ko1 kn1 kc1]) rfl (by kernel_rfl) rfl rfl ?_)
            intro w7 hw7
            have HW7 := Lib.hid hw7
            clear hw7 e0 e1 e2 e3 e4 e5
            go_wp2_with fail
            exact bodyPost_ret (results_row_tmp rfl _ _ (W.heap.size + 1) 25 _ (0, 0) _ rfl HW7.out.at_ Tryz.underlying25 rfl (by kernel_rfl)) rfl (by exact HFIN.out _ HW7.out)
          · have HN : Hid (getF t x = none) := by unfold Hid; rw [HG.out, List.getElem?_eq_none (by omega)]
            have hig : (L.length : Int) ≤ (i : Int) := by omega
            have hign : L.length ≤ i := by omega
            clear HG HL hil
            as_aux_lemma =>
            go_wp2_with (refine wpList_store_row rfl 25 _ _ rfl (W.heap.size + 1) rfl 25 _ HK1.out (.agg #[.int .i64 0, .bool false, .int .i64 0, .string ⟨#[]⟩, .slice none 0 0, .slice none 0 0]) rfl (by kernel_rfl) rfl rfl ?_)
            intro w7 hw7
            have HW7 := Lib.hid hw7
            clear hw7
            go_wp2_with fail
            exact bodyPost_ret (results_row_tmp rfl _ _ (W.heap.size + 1) 25 _ (0, 0) _ rfl HW7.out.at_ Tryz.underlying25 rfl (by kernel_rfl)) rfl (by exact HZERO.out _ HW7.out HN.out)
        · have HN := Lib.hid (HS.out.2 hx)
          have t1 : (x.toList == key.toList) = false := by rw [Bool.eq_false_iff]; exact fun h => hx (bytes_beq0 h)
          clear HS HK hx HGF HZERO
          as_aux_lemma =>
          go_wp2_with fail
          go_roundg (ks.length - (i + 1))
          case measure => omega
          case rel => exact ⟨i + 1, by go_num, by omega, rfl, HN.out, rfl⟩
      · have hii : ¬ (i : Int) < (ks.length : Int) := by omega
        have HN : Hid (getF t key = none) := by
          have he : i = ks.length := by omega
          unfold Hid
          rw [HGF.out, HK.out, he, keyPl_end]; rfl
        clear HK HGF
        as_aux_lemma =>
        go_wp2_with (refine wpList_store_row rfl 25 _ _ rfl (W.heap.size + 1) rfl 25 _ HK1.out (.agg #[.int .i64 0, .bool false, .int .i64 0, .string ⟨#[]⟩, .slice none 0 0, .slice none 0 0]) rfl (by kernel_rfl) rfl rfl ?_)
        intro w7 hw7
        have HW7 := Lib.hid hw7
        clear hw7
        go_wp2_with fail
        exact bodyPost_ret (results_row_tmp rfl _ _ (W.heap.size + 1) 25 _ (0, 0) _ rfl HW7.out.at_ Tryz.underlying25 rfl (by kernel_rfl)) rfl (by exact HZERO.out _ HW7.out HN.out)
  · rw [if_neg hk5] at HGF
    have HN : Hid (getF t key = none) := HGF.out
    have t5 : (k == 5) = false := by rw [beq_eq_false_iff_ne]; exact hk5
    have t5b : (k != 5) = true := by simp [bne, t5]
    clear HGF HL hk5
    as_aux_lemma =>
    go_enter Tryz.func26, Tryz.ntmps26
    go_wp2_with (refine wpList_store_row rfl 25 _ _ rfl (W.heap.size + 1) rfl 25 _ HK1.out (.agg #[.int .i64 0, .bool false, .int .i64 0, .string ⟨#[]⟩, .slice none 0 0, .slice none 0 0]) rfl (by kernel_rfl) rfl rfl ?_)
    intro w7 hw7
    have HW7 := Lib.hid hw7
    clear hw7
    go_wp2_with fail
    exact bodyPost_ret (results_row_tmp rfl _ _ (W.heap.size + 1) 25 _ (0, 0) _ rfl HW7.out.at_ Tryz.underlying25 rfl (by kernel_rfl)) rfl (by exact HZERO.out _ HW7.out HN.out)
end Go.Proofs.YtbndgmbjfgmdnaaGreatDoor
/- The walk over the reference's Levels. -/
namespace Go.Proofs.YtbndgmbjfgmdnaaGreatDoor
open Go.RowKit Go.Deep

theorem levels_valid {t : VT} (h : validF t = 0) : levelsF t ≤ 17 := by
  rw [← top_levels h]
  have hz := fun p hp => (node_zero (firstE_zero ((check_nodes 1 t).trans h) p hp)).1
  have : ∀ (l : List (Nat × VT)) (m : Nat), m ≤ 17 → (∀ p ∈ l, p.1 ≤ 16) → topF m l ≤ 17 := by
    intro l
    induction l with
    | nil => exact fun m h _ => h
    | cons x l ih =>
      intro m hm hl
      exact ih _ (Nat.max_le.2 ⟨hm, topE_le (hl x (List.mem_cons_self ..))⟩) (fun p hp => hl p (List.mem_cons_of_mem _ hp))
  exact this _ 0 (by decide) hz
theorem levelsL_step {L : List VT} {i : Nat} (h : i < L.length) : levelsL (L.take (i + 1)) = max (levelsL (L.take i)) (levelsF L[i]) := by
  have app : ∀ (a : List VT) (x : VT), levelsL (a ++ [x]) = max (levelsL a) (levelsF x) := by
    intro a x
    induction a with
    | nil => simp [levelsL]
    | cons y a ih => rw [List.cons_append, levelsL, ih, levelsL, Nat.max_assoc]
  rw [List.take_succ_eq_append_getElem h, app]
def LevCalls (t : VT) : Prop := ∀ cs W, VCell W t cs → Calls Tryz.prog 50 #[.agg cs.toArray] W fun e w' => e = .returned (.int .i64 (levelsF t : Nat)) ∧ Below W.heap.size W w'
def LvRel (W : World) (cs : Array Value) (L : List VT) (f : Nat) (t3 t4 : Value) (wr : World) : Prop :=
  ∃ i m : Nat, t3 = .int .i64 (m : Nat) ∧ m = max 2 (1 + levelsL (L.take i)) ∧ t4 = .int .i64 (i : Nat) ∧ i ≤ L.length ∧ f = L.length - i ∧ wr.heap[W.heap.size]? = some (.cells cs 25 (0, 0)) ∧ Below W.heap.size W wr

set_option maxRecDepth 100000 in
set_option maxHeartbeats 1600000 in
theorem lev_l (k : Int) (hk : k = 4 ∨ k = 5) (b : Bool) (n : Int) (s : ByteArray) (L : List VT) (ks : List ByteArray) (hl : levelsF (.mk k b n s L ks) ≤ 1000000) (hn : L.length * 88 ≤ 140737488355328) (ih : ∀ x ∈ L, LevCalls x)
    (lo ko : Option Addr) (lc kn kc : Nat) (W : World) (hL : VList W L (.slice lo L.length lc)) : Calls Tryz.prog 50 #[.agg #[.int .i64 k, .bool b, .int .i64 n, .string s, .slice lo L.length lc, .slice ko kn kc]] W fun e w' => e = .returned (.int .i64 (levelsF (.mk k b n s L ks) : Nat)) ∧ Below W.heap.size W w' := by
  have hLF : levelsF (.mk k b n s L ks) = max 2 (1 + levelsL L) := by rw [levelsF, if_pos hk]
  rw [hLF] at hl ⊢
  have HML : Hid (∀ i, levelsL (L.take i) ≤ 1000000) := by
    have app : ∀ (a b : List VT), levelsL a ≤ levelsL (a ++ b) := by
      intro a b
      induction a with
      | nil => exact Nat.zero_le _
      | cons y a ih => rw [List.cons_append, levelsL, levelsL]; omega
    intro i
    have := app (L.take i) (L.drop i)
    rw [List.take_append_drop] at this
    omega
  have HMS : Hid (∀ i (hi : i < L.length), levelsF L[i] ≤ 1000000 ∧ max 2 (1 + levelsL (L.take (i + 1))) = max (max 2 (1 + levelsL (L.take i))) (1 + levelsF L[i])) := fun i hi => by
    have h1 := levelsL_step hi
    have h2 := HML.out (i + 1)
    constructor <;> omega
  obtain ⟨W1, hW1⟩ : ∃ W1, W.alloc (.cells #[.int .i64 k, .bool b, .int .i64 n, .string s, .slice lo L.length lc, .slice ko kn kc] 25 (0, 0)) = W1 := ⟨_, rfl⟩
  have hk0 : W1.heap[W.heap.size]? = some (.cells #[.int .i64 k, .bool b, .int .i64 n, .string s, .slice lo L.length lc, .slice ko kn kc] 25 (0, 0)) := by rw [← hW1]; exact hp_new rfl
  have HB1 : Hid (Below W.heap.size W W1) := by unfold Hid; rw [← hW1]; exact (Below.refl _ W).alloc (Nat.le_refl _) _
  have d0 : W1.cell? ⟨W.heap.size, 0, none⟩ = some (.int .i64 k) := cell_of_blk hk0 0
  have HREL0 : Hid (LvRel W #[.int .i64 k, .bool b, .int .i64 n, .string s, .slice lo L.length lc, .slice ko kn kc] L L.length (.int .i64 ((2 : Nat) : Int)) (.int .i64 ((0 : Nat) : Int)) W1) := ⟨0, 2, rfl, rfl, rfl, Nat.zero_le _, rfl, hk0, HB1.out⟩
  have IH := Lib.hid ih
  have HL := Lib.hid hL
  clear hk0 ih hL hl hLF
  have main : Hid (Calls Tryz.prog 50 #[.agg #[.int .i64 k, .bool b, .int .i64 n, .string s, .slice lo L.length lc, .slice ko kn kc]] W fun e w' => e = .returned (.int .i64 ((max 2 (1 + levelsL L) : Nat) : Int)) ∧ Below W.heap.size W w') := by
    rcases hk with rfl | rfl
    · as_aux_lemma =>
      go_enter Tryz.func50, Tryz.ntmps50
      go_wp2_with fail
      clear d0 hW1
      go_loopg [3, 4] L.length (LvRel W #[.int .i64 4, .bool b, .int .i64 n, .string s, .slice lo L.length lc, .slice ko kn kc] L)
      case atStart => exact HREL0.out
      case round =>
        obtain ⟨i, m, rfl, hm, rfl, hi, rfl, hk0, hbel⟩ := hrel
        have HB := Lib.hid hbel
        have HM := Lib.hid hm
        have HZ0 : Hid (W.heap.size < wr.heap.size) := (Array.getElem?_eq_some_iff.1 hk0).1
        have HK0 := Lib.hid hk0
        have c4 : wr.cell? ⟨W.heap.size, 4, none⟩ = some (.slice lo L.length lc) := cell_of_blk hk0 4
        have hml := HML.out i
        have hmm : m ≤ 1000001 := by have := HM.out; omega
        clear hbel hk0 hm hml HREL0
        by_cases hlt : i < L.length
        · have hii : (i : Int) < (L.length : Int) := by omega
          obtain ⟨bl, off, ce, rfl, hbl, hce, hvc⟩ := (HL.out.below HB.out).at hlt
          have CC := Lib.hid (IH.out _ (List.getElem_mem hlt) _ wr hvc)
          obtain ⟨k1, c1, n1, s1, lo1, ln1, lc1, ko1, kn1, kc1, rfl⟩ := vcell_slices0 hvc
          have e0 := hce 0 _ rfl
          have e1 := hce 1 _ rfl
          have e2 := hce 2 _ rfl
          have e3 := hce 3 _ rfl
          have e4 := hce 4 _ rfl
          have e5 := hce 5 _ rfl
          rw [Nat.add_zero] at e0
          obtain ⟨hq, hst⟩ := HMS.out i hlt
          rw [← HM.out] at hst
          have HST := Lib.hid hst
          clear hst hce hvc HM
          generalize levelsF L[i] = q at *
          as_aux_lemma =>
          go_wp2_with fail
          clear e0 e1 e2 e3 e4 e5 c4
          refine CC.out.mono ?_
          rintro e w4 ⟨rfl, hb4⟩
          have HB4 := Lib.hid hb4
          clear hb4 CC
          go_wp2_with fail
          go_roundg (L.length - (i + 1))
          case measure => omega
          case rel => exact ⟨i + 1, max m (1 + q), by rw [show (((max m (1 + q) : Nat)) : Int) = max (m : Int) (1 + (q : Int)) by omega] <;> rfl, HST.out.symm, by go_num, by omega, rfl, (HB4.out.block _ HZ0.out).trans HK0.out, HB.out.trans (HB4.out.mono HB.out.size)⟩
        · have hii : ¬ (i : Int) < (L.length : Int) := by omega
          have HE : Hid (m = max 2 (1 + levelsL L)) := by
            have := HM.out
            rw [show i = L.length by omega, List.take_length] at this
            exact this
          clear HMS HML HM
          as_aux_lemma =>
          go_wp2_with fail
          go_ret
          exact ⟨by rw [← HE.out] <;> rfl, HB.out⟩
    · as_aux_lemma =>
      go_enter Tryz.func50, Tryz.ntmps50
      go_wp2_with fail
      clear d0 hW1
      go_loopg [3, 4] L.length (LvRel W #[.int .i64 5, .bool b, .int .i64 n, .string s, .slice lo L.length lc, .slice ko kn kc] L)
      case atStart => exact HREL0.out
      case round =>
        obtain ⟨i, m, rfl, hm, rfl, hi, rfl, hk0, hbel⟩ := hrel
        have HB := Lib.hid hbel
        have HM := Lib.hid hm
        have HZ0 : Hid (W.heap.size < wr.heap.size) := (Array.getElem?_eq_some_iff.1 hk0).1
        have HK0 := Lib.hid hk0
        have c4 : wr.cell? ⟨W.heap.size, 4, none⟩ = some (.slice lo L.length lc) := cell_of_blk hk0 4
        have hml := HML.out i
        have hmm : m ≤ 1000001 := by have := HM.out; omega
        clear hbel hk0 hm hml HREL0
        by_cases hlt : i < L.length
        · have hii : (i : Int) < (L.length : Int) := by omega
          obtain ⟨bl, off, ce, rfl, hbl, hce, hvc⟩ := (HL.out.below HB.out).at hlt
          have CC := Lib.hid (IH.out _ (List.getElem_mem hlt) _ wr hvc)
          obtain ⟨k1, c1, n1, s1, lo1, ln1, lc1, ko1, kn1, kc1, rfl⟩ := vcell_slices0 hvc
          have e0 := hce 0 _ rfl
          have e1 := hce 1 _ rfl
          have e2 := hce 2 _ rfl
          have e3 := hce 3 _ rfl
          have e4 := hce 4 _ rfl
          have e5 := hce 5 _ rfl
          rw [Nat.add_zero] at e0
          obtain ⟨hq, hst⟩ := HMS.out i hlt
          rw [← HM.out] at hst
          have HST := Lib.hid hst
          clear hst hce hvc HM
          generalize levelsF L[i] = q at *
          as_aux_lemma =>
          go_wp2_with fail
          clear e0 e1 e2 e3 e4 e5 c4
          refine CC.out.mono ?_
          rintro e w4 ⟨rfl, hb4⟩
          have HB4 := Lib.hid hb4
          clear hb4 CC
          go_wp2_with fail
          go_roundg (L.length - (i + 1))
          case measure => omega
          case rel => exact ⟨i + 1, max m (1 + q), by rw [show (((max m (1 + q) : Nat)) : Int) = max (m : Int) (1 + (q : Int)) by omega] <;> rfl, HST.out.symm, by go_num, by omega, rfl, (HB4.out.block _ HZ0.out).trans HK0.out, HB.out.trans (HB4.out.mono HB.out.size)⟩
        · have hii : ¬ (i : Int) < (L.length : Int) := by omega
          have HE : Hid (m = max 2 (1 + levelsL L)) := by
            have := HM.out
            rw [show i = L.length by omega, List.take_length] at this
            exact this
          clear HMS HML HM
          as_aux_lemma =>
          go_wp2_with fail
          go_ret
          exact ⟨by rw [← HE.out] <;> rfl, HB.out⟩
  exact main.out
set_option maxRecDepth 100000 in
set_option maxHeartbeats 1600000 in
theorem lev_o (k : Int) (h4 : k ≠ 4) (h5 : k ≠ 5) (b : Bool) (n : Int) (s : ByteArray) (L : List VT) (ks : List ByteArray) (lo ko : Option Addr) (ln lc kn kc : Nat) (W : World) :
    Calls Tryz.prog 50 #[.agg #[.int .i64 k, .bool b, .int .i64 n, .string s, .slice lo ln lc, .slice ko kn kc]] W fun e w' => e = .returned (.int .i64 (levelsF (.mk k b n s L ks) : Nat)) ∧ Below W.heap.size W w' := by
  have HLF : Hid (levelsF (.mk k b n s L ks) = 1) := by unfold Hid; rw [levelsF, if_neg (by simp [h4, h5])]
  generalize levelsF (.mk k b n s L ks) = r at *
  obtain ⟨W1, hW1⟩ : ∃ W1, W.alloc (.cells #[.int .i64 k, .bool b, .int .i64 n, .string s, .slice lo ln lc, .slice ko kn kc] 25 (0, 0)) = W1 := ⟨_, rfl⟩
  have hk0 : W1.heap[W.heap.size]? = some (.cells #[.int .i64 k, .bool b, .int .i64 n, .string s, .slice lo ln lc, .slice ko kn kc] 25 (0, 0)) := by rw [← hW1]; exact hp_new rfl
  have HB1 : Hid (Below W.heap.size W W1) := by unfold Hid; rw [← hW1]; exact (Below.refl _ W).alloc (Nat.le_refl _) _
  have d0 : W1.cell? ⟨W.heap.size, 0, none⟩ = some (.int .i64 k) := cell_of_blk hk0 0
  have n4 : (k == 4) = false := by rw [beq_eq_false_iff_ne]; exact h4
  have n5 : (k == 5) = false := by rw [beq_eq_false_iff_ne]; exact h5
  have n4b : (k != 4) = true := by simp [bne, n4]
  have n5b : (k != 5) = true := by simp [bne, n5]
  clear hk0 h4 h5
  go_enter Tryz.func50, Tryz.ntmps50
  go_wp2_with fail
  go_ret
  exact ⟨by rw [HLF.out] <;> rfl, HB1.out⟩
theorem lev_all : ∀ (m : Nat) (t : VT), SizeOf.sizeOf t ≤ m → t.fit → levelsF t ≤ 1000000 → LevCalls t
  | 0, t, hm, _, _ => by
    cases t
    simp only [VT.mk.sizeOf_spec] at hm
    omega
  | m + 1, .mk k b n s L ks, hm, hf, hl => by
    intro cs W h
    rw [vcell_mk] at h
    obtain ⟨v4, v5, rfl, hs, hL⟩ := h
    obtain ⟨ko, kc, rfl⟩ := hs.form
    obtain ⟨lo, lc, rfl⟩ := vlist_slice hL
    obtain ⟨h88, _, hfl⟩ := VT.fit_parts hf
    by_cases hk : k = 4 ∨ k = 5
    · refine lev_l k hk b n s L ks hl h88 (fun x hx => lev_all m x (by have := vt_lt (k := k) (b := b) (n := n) (s := s) (ks := ks) hx; omega) (hfl x hx) ?_) lo ko lc ks.length kc W hL
      rw [levelsF, if_pos hk] at hl
      have : ∀ (l : List VT), x ∈ l → levelsF x ≤ levelsL l := by
        intro l hx
        induction l with
        | nil => cases hx
        | cons y l ih =>
          rw [levelsL]
          rcases List.mem_cons.1 hx with rfl | hx
          · omega
          · have := ih hx; omega
      have := this L hx
      omega
    · exact lev_o k (fun e => hk (.inl e)) (fun e => hk (.inr e)) b n s L ks lo ko L.length lc ks.length kc W
theorem rlevels_any (t : VT) (hf : t.fit) (hl : levelsF t ≤ 1000000) (v : Value) (W : World) (h : VAt W v t) : Calls Tryz.prog 50 #[v] W fun e w' => e = .returned (.int .i64 (levelsF t : Nat)) ∧ Below W.heap.size W w' := by
  obtain ⟨cs, rfl, hc⟩ := h
  exact lev_all _ t (Nat.le_refl _) hf hl cs W hc
end Go.Proofs.YtbndgmbjfgmdnaaGreatDoor
