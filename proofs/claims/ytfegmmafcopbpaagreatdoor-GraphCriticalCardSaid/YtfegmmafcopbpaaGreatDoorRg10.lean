/- The walks over the reference's Before and better; ways in plain words, and how they lie in memory. -/
import Derived.Test.YtfegmmafcopbpaaGreatDoorRg5
import Derived.Laws.OwnMore
import Derived.OwnWalk
/- The walk over the reference's Before. -/
namespace Go.Proofs.YtfegmmafcopbpaaGreatDoor
open Go.RowKit

def BefRel (w1 : World) (xs ys : List Bs) (f : Nat) (t5 _t6 : Value) (wr : World) : Prop :=
  ∃ i : Nat, t5 = .int .i64 (i : Nat) ∧ i ≤ xs.length ∧ f = xs.length - i ∧ bfF (xs.drop i) (ys.drop i) = bfF xs ys ∧ i ≤ ys.length ∧ Below w1.heap.size w1 wr
theorem dts_drop (ss : List ByteArray) {i : Nat} (hi : i < ss.length) : (dts ss).drop i = (ss.getD i ByteArray.empty).data.toList :: (dts ss).drop (i + 1) := by
  have h : i < (dts ss).length := by rw [dts_len]; exact hi
  rw [List.drop_eq_getElem_cons h]
  congr 1
  have := dts_at ss hi
  rw [List.getElem?_eq_getElem h] at this
  injection this

set_option maxRecDepth 100000 in
set_option maxHeartbeats 3200000 in
theorem before_any (u v : Value) (xs ys : List ByteArray) (hl : xs.length ≤ 1000000) (hl2 : ys.length ≤ 1000000) (hsx : ∀ s ∈ xs, s.size ≤ 9223372036854775807) (hsy : ∀ s ∈ ys, s.size ≤ 9223372036854775807) (w : World) (hx : StrsAt w u xs) (hy : StrsAt w v ys) :
    Calls Tryz.prog 82 #[u, v] w fun e w' => e = .returned (.bool (bfF (dts xs) (dts ys))) ∧ Below w.heap.size w w' := by
  obtain ⟨ao, cap, rfl⟩ := hx.form
  obtain ⟨bo, cbp, rfl⟩ := hy.form
  have HX := Lib.hid hx
  have HY := Lib.hid hy
  have HSX := Lib.hid hsx
  have HSY := Lib.hid hsy
  have HLX := Lib.hid (dts_len xs)
  have HLY := Lib.hid (dts_len ys)
  clear hx hy hsx hsy
  go_enter Tryz.func82, Tryz.ntmps82
  go_wp2_with fail
  go_loopg [5, 6] xs.length (BefRel w (dts xs) (dts ys))
  case atStart => exact ⟨0, rfl, Nat.zero_le _, by rw [HLX.out]; rfl, rfl, Nat.zero_le _, Below.refl _ _⟩
  case round =>
    obtain ⟨i, rfl, hi, hff, hbf, hiy, hbr⟩ := hrel
    rw [HLX.out] at hi hff
    rw [HLY.out] at hiy
    subst hff
    have HBF := Lib.hid hbf
    have HBR := Lib.hid hbr
    have hbs := hbr.size
    clear hbf hbr
    by_cases hlx : i < xs.length
    · by_cases hly : i < ys.length
      · have hii : ((i : Nat) : Int) < (xs.length : Int) := by omega
        have hjj : ((i : Nat) : Int) < (ys.length : Int) := by omega
        have hi0 : (0 : Int) ≤ ((i : Nat) : Int) := by omega
        obtain ⟨b, off, rfl, hbl, hc⟩ := (HX.out.below HBR.out).at_ hlx
        obtain ⟨b2, off2, rfl, hbl2, hc2⟩ := (HY.out.below HBR.out).at_ hly
        have HDX := Lib.hid (dts_drop xs hlx)
        have HDY := Lib.hid (dts_drop ys hly)
        have CM := fun W => Lib.hid (rcompare_any (xs.getD i ByteArray.empty) (ys.getD i ByteArray.empty) (HSX.out _ (by rw [List.getD, List.getElem?_eq_getElem hlx]; exact List.getElem_mem hlx)) (HSY.out _ (by rw [List.getD, List.getElem?_eq_getElem hly]; exact List.getElem_mem hly)) W)
        generalize xs.getD i ByteArray.empty = x at *
        generalize ys.getD i ByteArray.empty = y at *
        by_cases hz : natC x.data.toList y.data.toList = 0
        · have HFIN : Hid (bfF ((dts xs).drop (i + 1)) ((dts ys).drop (i + 1)) = bfF (dts xs) (dts ys)) := by
            unfold Hid
            rw [← HBF.out, HDX.out, HDY.out, bfF, if_pos hz]
          rw [hz] at CM
          clear hz
          as_aux_lemma =>
          go_upto_region 4 with fail
          go_still_tail 8, (by kernel_rfl)
          change wpList _ _ _ _ _ (World.drew _)
          go_wp2_with fail
          refine (CM _).out.mono ?_
          rintro e w5 ⟨rfl, hu⟩
          have HB5 := Lib.hid (HBR.out.trans ((Below.refl wr.heap.size wr).drew.trans (hu.b.mono (Nat.le_refl _)) |>.mono hbs))
          clear hu
          go_wp2_with fail
          go_roundg (xs.length - (i + 1))
          case measure => omega
          case rel => exact ⟨i + 1, by go_num, by rw [HLX.out]; omega, by rw [HLX.out], HFIN.out, by rw [HLY.out]; omega, HB5.out⟩
        · have HFIN : Hid (bfF (dts xs) (dts ys) = decide (natC x.data.toList y.data.toList < 0)) := by
            unfold Hid
            rw [← HBF.out, HDX.out, HDY.out, bfF, if_neg hz]
          have hzi : (natC x.data.toList y.data.toList != 0) = true := by rw [bne_iff_ne]; exact hz
          generalize natC x.data.toList y.data.toList = z at *
          clear hz
          as_aux_lemma =>
          go_upto_region 4 with fail
          go_still_tail 8, (by kernel_rfl)
          change wpList _ _ _ _ _ (World.drew _)
          go_wp2_with fail
          refine (CM _).out.mono ?_
          rintro e w5 ⟨rfl, hu⟩
          have HB5 := Lib.hid (HBR.out.trans ((Below.refl wr.heap.size wr).drew.trans (hu.b.mono (Nat.le_refl _)) |>.mono hbs))
          clear hu
          go_wp2_with fail
          go_ret
          exact ⟨by rw [HFIN.out]; rfl, HB5.out⟩
      · have hye : i = ys.length := by omega
        have hii : ((i : Nat) : Int) < (xs.length : Int) := by omega
        have hjj : decide (((i : Nat) : Int) < (ys.length : Int)) = false := decide_eq_false (by omega)
        have hjn : decide (i < ys.length) = false := decide_eq_false (by omega)
        have HFIN : Hid (bfF (dts xs) (dts ys) = decide (xs.length < ys.length)) := by
          unfold Hid
          rw [← HBF.out, dts_drop xs hlx, show (dts ys).drop i = [] by rw [hye, ← HLY.out, List.drop_length], decide_eq_false (by omega), bfF]
        clear hye
        as_aux_lemma =>
        go_wp2_with fail
        go_ret
        exact ⟨by rw [HFIN.out]; simp, HBR.out⟩
    · have hxe : i = xs.length := by omega
      have hii : decide (((i : Nat) : Int) < (xs.length : Int)) = false := decide_eq_false (by omega)
      have hin : decide (i < xs.length) = false := decide_eq_false (by omega)
      have HFIN : Hid (bfF (dts xs) (dts ys) = decide (xs.length < ys.length)) := by
        unfold Hid
        rw [← HBF.out, show (dts xs).drop i = [] by rw [hxe, ← HLX.out, List.drop_length]]
        by_cases hly : i < ys.length
        · rw [dts_drop ys hly, bfF, decide_eq_true (by omega)]
        · rw [show (dts ys).drop i = [] by rw [List.drop_eq_nil_of_le]; rw [HLY.out]; omega, bfF, decide_eq_false (by omega)]
      clear hxe
      as_aux_lemma =>
      go_wp2_with fail
      go_ret
      exact ⟨by rw [HFIN.out]; simp, HBR.out⟩
end Go.Proofs.YtfegmmafcopbpaaGreatDoor
/- The walk over the reference's better. -/
namespace Go.Proofs.YtfegmmafcopbpaaGreatDoor
open Go.RowKit

def wayV (c : Nat) (v : Value) : Value := .agg #[.int .i64 (c : Nat), v]
def betB (a b : Way) : Bool := decide (a.1 < b.1) || (decide (b.1 = a.1) && bfF b.2 a.2)
def BetPost (a b : Way) (u v : Value) (w : World) (e : Ending) (w' : World) : Prop := e = .returned (if betB a b then v else u) ∧ Below w.heap.size w w'
theorem betF_B (a b : Way) : betF a b = if betB a b then b else a := by
  unfold betF betB
  by_cases h : a.1 < b.1 ∨ (b.1 = a.1 ∧ bfF b.2 a.2 = true)
  · rw [if_pos h, if_pos (by simpa using h)]
  · rw [if_neg h, if_neg (by simpa using h)]

set_option maxRecDepth 100000 in
set_option maxHeartbeats 3200000 in
theorem better_any (c1 c2 : Nat) (v1 v2 : Value) (p1 p2 : List ByteArray) (hl : p1.length ≤ 1000000) (hl2 : p2.length ≤ 1000000) (hs1 : ∀ s ∈ p1, s.size ≤ 9223372036854775807) (hs2 : ∀ s ∈ p2, s.size ≤ 9223372036854775807) (w : World) (h1 : StrsAt w v1 p1) (h2 : StrsAt w v2 p2) :
    Calls Tryz.prog 59 #[wayV c1 v1, wayV c2 v2] w (BetPost (c1, dts p1) (c2, dts p2) (wayV c1 v1) (wayV c2 v2) w) := by
  have BE := fun W (hW : Below w.heap.size w W) => Lib.hid (before_any v2 v1 p2 p1 hl2 hl hs2 hs1 W (h2.below hW) (h1.below hW))
  obtain ⟨a1, k1, rfl⟩ := h1.form
  obtain ⟨a2, k2, rfl⟩ := h2.form
  clear h1 h2 hs1 hs2
  unfold wayV
  go_enter Tryz.func59, Tryz.ntmps59
  by_cases h : c1 < c2
  · have hi : ((c1 : Nat) : Int) < ((c2 : Nat) : Int) := by omega
    have HB : Hid (betB (c1, dts p1) (c2, dts p2) = true) := by unfold Hid betB; simp [h]
    clear h
    go_wp2_with fail
    refine bodyPost_ret (v := .agg #[.int .i64 (c2 : Nat), .slice a2 p2.length k2]) ?_ rfl ⟨by rw [if_pos HB.out], (((Below.refl _ w).alloc (Nat.le_refl _) _).alloc (by simp) _).alloc (by simp; omega) _⟩
    exact results_cell_row (p := 4) (ty := 85) rfl _ _ (w.heap.size + 1 + 1) 85 #[.int .i64 (c2 : Nat), .slice a2 p2.length k2] (0, 0) _ rfl (hp_new (by simp)) Tryz.underlying85 rfl (by kernel_rfl)
  · by_cases he : c2 = c1
    · subst he
      obtain ⟨q, hq⟩ : ∃ q, bfF (dts p2) (dts p1) = q := ⟨_, rfl⟩
      have HB : Hid (betB (c2, dts p1) (c2, dts p2) = q) := by unfold Hid betB; simp [hq]
      rw [hq] at BE
      have hi : ¬ ((c2 : Nat) : Int) < ((c2 : Nat) : Int) := by omega
      have B0 := Lib.hid ((((Below.refl _ w).alloc (Nat.le_refl _) (.cells #[.int .i64 (c2 : Nat), .slice a1 p1.length k1] 85)).alloc (by simp) (.cells #[.int .i64 (c2 : Nat), .slice a2 p2.length k2] 85)))
      clear h hq hi B0
      go_wp2_with fail
      refine (BE _ ((((Below.refl _ w).alloc (Nat.le_refl _) _).alloc (by simp) _).alloc (by simp; omega) _)).out.mono ?_
      rintro e w5 ⟨rfl, hb⟩
      have B0 : Hid (w5.heap[w.heap.size]? = some (.cells #[.int .i64 (c2 : Nat), .slice a1 p1.length k1] 85 (0, 0))) := (hb.block _ (by simp; omega)).trans (((hp_old (by simp; omega)).trans (hp_old (by simp))).trans (hp_new rfl))
      have B1 : Hid (w5.heap[w.heap.size + 1]? = some (.cells #[.int .i64 (c2 : Nat), .slice a2 p2.length k2] 85 (0, 0))) := (hb.block _ (by simp; try omega)).trans ((hp_old (by simp)).trans (hp_new (by simp)))
      have B2 : Hid (w5.heap[w.heap.size + 1 + 1]? = some (.cells #[.int .i64 0, .slice none 0 0] 85 (0, 0))) := (hb.block _ (by simp)).trans (hp_new (by simp))
      have HBL : Hid (Below w.heap.size w w5) := ((((Below.refl _ w).alloc (Nat.le_refl _) _).alloc (by simp) _).alloc (by simp; omega) _).trans (hb.mono (by simp; omega))
      obtain ⟨x0, x1, _, _⟩ := blk2 B0.out
      obtain ⟨y0, y1, _, _⟩ := blk2 B1.out
      clear hb BE
      cases q with
      | true =>
        as_aux_lemma =>
        go_wp2_with (refine wpList_store_row rfl 85 _ _ rfl (w.heap.size + 1 + 1) rfl 85 _ B2.out (.agg #[.int .i64 (c2 : Nat), .slice a2 p2.length k2]) rfl (by kernel_rfl) rfl rfl ?_)
        intro w6 hw6
        have HW6 := Lib.hid hw6
        clear hw6
        go_wp2_with fail
        refine bodyPost_ret (v := .agg #[.int .i64 (c2 : Nat), .slice a2 p2.length k2]) ?_ rfl ⟨by rw [HB.out]; rfl, ?_⟩
        · exact results_cell_row (p := 4) (ty := 85) rfl _ _ (w.heap.size + 1 + 1) 85 #[.int .i64 (c2 : Nat), .slice a2 p2.length k2] (0, 0) _ rfl HW6.out.at_ Tryz.underlying85 rfl (by kernel_rfl)
        · exact HBL.out.trans (HW6.out.below (by omega))
      | false =>
        as_aux_lemma =>
        go_wp2_with (refine wpList_store_row rfl 85 _ _ rfl (w.heap.size + 1 + 1) rfl 85 _ B2.out (.agg #[.int .i64 (c2 : Nat), .slice a1 p1.length k1]) rfl (by kernel_rfl) rfl rfl ?_)
        intro w6 hw6
        have HW6 := Lib.hid hw6
        clear hw6
        go_wp2_with fail
        refine bodyPost_ret (v := .agg #[.int .i64 (c2 : Nat), .slice a1 p1.length k1]) ?_ rfl ⟨by rw [HB.out]; rfl, ?_⟩
        · exact results_cell_row (p := 4) (ty := 85) rfl _ _ (w.heap.size + 1 + 1) 85 #[.int .i64 (c2 : Nat), .slice a1 p1.length k1] (0, 0) _ rfl HW6.out.at_ Tryz.underlying85 rfl (by kernel_rfl)
        · exact HBL.out.trans (HW6.out.below (by omega))
    · have hi : decide (((c1 : Nat) : Int) < ((c2 : Nat) : Int)) = false := decide_eq_false (by omega)
      have hin : decide (c1 < c2) = false := decide_eq_false (by omega)
      have he2 : (((c2 : Nat) : Int) == ((c1 : Nat) : Int)) = false := by rw [beq_eq_false_iff_ne]; omega
      have HB : Hid (¬ betB (c1, dts p1) (c2, dts p2) = true) := by unfold Hid betB; simp [h, he]
      clear h he
      go_wp2_with fail
      refine bodyPost_ret (v := .agg #[.int .i64 (c1 : Nat), .slice a1 p1.length k1]) ?_ rfl ⟨by rw [if_neg HB.out], (((Below.refl _ w).alloc (Nat.le_refl _) _).alloc (by simp) _).alloc (by simp; omega) _⟩
      exact results_cell_row (p := 4) (ty := 85) rfl _ _ (w.heap.size + 1 + 1) 85 #[.int .i64 (c1 : Nat), .slice a1 p1.length k1] (0, 0) _ rfl (hp_new (by simp)) Tryz.underlying85 rfl (by kernel_rfl)
end Go.Proofs.YtfegmmafcopbpaaGreatDoor
/- Ways and their rows: in plain words, and how they lie in memory. -/
namespace Go.Proofs.YtfegmmafcopbpaaGreatDoor
open Go.RowKit

theorem betF_or (a b : Way) : betF a b = a ∨ betF a b = b := by
  unfold betF
  split
  · exact .inr rfl
  · exact .inl rfl
/-- the best way from a node among some of the nodes that need it -/
def foldK (G : Gr) (C : Nat → Nat) (O : Nat → Way) (k j : Nat) : Way :=
  ((List.range j).filter fun n => decide (idA G k ∈ needA G n)).foldl (fun w n => betF w (C k + (O n).1, idA G k :: (O n).2)) (C k, [idA G k])
theorem foldK_zero (G : Gr) (C : Nat → Nat) (O : Nat → Way) (k : Nat) : foldK G C O k 0 = (C k, [idA G k]) := rfl
theorem foldK_succ (G : Gr) (C : Nat → Nat) (O : Nat → Way) (k j : Nat) : foldK G C O k (j + 1) = if idA G k ∈ needA G j then betF (foldK G C O k j) (C k + (O j).1, idA G k :: (O j).2) else foldK G C O k j := by
  unfold foldK
  rw [List.range_succ, List.filter_append, List.foldl_append]
  by_cases h : idA G k ∈ needA G j
  · rw [if_pos h]; simp [h]
  · rw [if_neg h]; simp [h]
theorem foldK_full (G : Gr) (C : Nat → Nat) (O : Nat → Way) (k : Nat) : foldK G C O k G.length = wayK G C O k := rfl
/-- a way of at most so many nodes -/
def WyOk (G : Gr) (M c : Nat) (x : Way) : Prop := x.1 ≤ c * M ∧ x.2.length ≤ c ∧ ∀ b ∈ x.2, b ∈ idsG G
theorem WyOk.bet {G : Gr} {M c : Nat} {a b : Way} (ha : WyOk G M c a) (hb : WyOk G M c b) : WyOk G M c (betF a b) := by
  rcases betF_or a b with h | h <;> rw [h] <;> assumption
theorem WyOk.cons {G : Gr} {M c : Nat} {x : Way} {k z : Nat} (h : WyOk G M c x) (hC : z ≤ M) (hk : k < G.length) : WyOk G M (c + 1) (z + x.1, idA G k :: x.2) := by
  refine ⟨?_, Nat.succ_le_succ h.2.1, fun b hb => ?_⟩
  · have := h.1
    show z + x.1 ≤ (c + 1) * M
    rw [Nat.succ_mul]
    omega
  · rcases List.mem_cons.1 hb with rfl | hb
    · exact idA_mem hk
    · exact h.2.2 b hb
theorem WyOk.nil (G : Gr) (M c : Nat) : WyOk G M c (0, []) := ⟨Nat.zero_le _, Nat.zero_le _, fun b hb => by cases hb⟩
theorem WyOk.one {G : Gr} {M c k z : Nat} (hC : z ≤ M) (hk : k < G.length) : WyOk G M (c + 1) (z, [idA G k]) := (WyOk.nil G M c).cons hC hk
theorem WyOk.mono {G : Gr} {M c d : Nat} {x : Way} (h : WyOk G M c x) (hd : c ≤ d) : WyOk G M d x := ⟨Nat.le_trans h.1 (Nat.mul_le_mul_right M hd), Nat.le_trans h.2.1 hd, h.2.2⟩
theorem foldK_ok {G : Gr} {C : Nat → Nat} {O : Nat → Way} {M c k : Nat} (hO : ∀ j, WyOk G M c (O j)) (hC : C k ≤ M) (hk : k < G.length) : ∀ j, WyOk G M (c + 1) (foldK G C O k j)
  | 0 => WyOk.one hC hk
  | j + 1 => by
    rw [foldK_succ]
    split
    · exact (foldK_ok hO hC hk j).bet ((hO j).cons hC hk)
    · exact foldK_ok hO hC hk j
theorem from_okA {G : Gr} {C : Nat → Nat} {M : Nat} (hC : ∀ k, k < G.length → C k ≤ M) : ∀ (l : List Nat) (c : Nat) (O : Nat → Way), (∀ k ∈ l, k < G.length) → (∀ j, WyOk G M c (O j)) →
    ∀ j, WyOk G M (c + l.length) (l.foldl (fun out k => setW out k (wayK G C out k)) O j)
  | [], c, O, _, hO => hO
  | k :: l, c, O, hl, hO => fun j => by
    have hk := hl k List.mem_cons_self
    have h1 : ∀ i, WyOk G M (c + 1) (setW O k (wayK G C O k) i) := fun i => by
      unfold setW
      split
      · rw [← foldK_full]
        exact foldK_ok hO (hC k hk) hk _
      · exact (hO i).mono (Nat.le_succ c)
    have := from_okA hC l (c + 1) _ (fun x hx => hl x (List.mem_cons_of_mem _ hx)) h1 j
    rw [List.foldl_cons, List.length_cons, show c + (l.length + 1) = c + 1 + l.length by omega]
    exact this
theorem from_ok {G : Gr} {C : Nat → Nat} {M : Nat} (hC : ∀ k, k < G.length → C k ≤ M) (l : List Nat) (hl : ∀ k ∈ l, k < G.length) (j : Nat) : WyOk G M l.length (fromTo G C l j) := by
  have := from_okA hC l 0 (fun _ => (0, [])) hl (fun _ => WyOk.nil G M 0) j
  rwa [Nat.zero_add] at this
theorem from_drop (G : Gr) (C : Nat → Nat) {l : List Nat} {f k : Nat} (h : l[f]? = some k) : fromTo G C (l.drop f).reverse = setW (fromTo G C (l.drop (f + 1)).reverse) k (wayK G C (fromTo G C (l.drop (f + 1)).reverse) k) := by
  have hf := (List.getElem?_eq_some_iff.1 h).1
  have e : l.drop f = k :: l.drop (f + 1) := by
    rw [List.drop_eq_getElem_cons hf]
    have h2 := (List.getElem?_eq_some_iff.1 h).2
    rw [h2]
  rw [e, List.reverse_cons, fromTo_snoc]

theorem splice_get {α : Type} (xs : List α) (q : Nat) (a b : α) (hq : q + 2 ≤ xs.length) (i : Nat) : (xs.take q ++ [a, b] ++ xs.drop (q + 2))[i]? = if i = q then some a else if i = q + 1 then some b else xs[i]? := by
  have hl : (xs.take q).length = q := by rw [List.length_take]; omega
  rw [List.append_assoc, List.getElem?_append, hl]
  by_cases h1 : i < q
  · rw [if_pos h1, if_neg (by omega), if_neg (by omega), List.getElem?_take_of_lt h1]
  · rw [if_neg h1]
    by_cases h2 : i = q
    · subst h2; rw [if_pos rfl, Nat.sub_self]; rfl
    · rw [if_neg h2]
      by_cases h3 : i = q + 1
      · subst h3; rw [if_pos rfl, Nat.add_sub_cancel_left]; rfl
      · rw [if_neg h3]
        obtain ⟨d, rfl⟩ : ∃ d, i = q + 2 + d := ⟨i - (q + 2), by omega⟩
        rw [show q + 2 + d - q = d + 2 by omega]
        show (xs.drop (q + 2))[d]? = _
        rw [List.getElem?_drop]

/-- a way as it lies in a row: its cost, and a slice of its names -/
def WyCell (W : World) (bo : Nat) (xs : List Value) (j : Nat) (x : Way) : Prop :=
  ∃ (u : Value) (ps : List ByteArray), xs[j * 2]? = some (.int .i64 ((x.1 : Nat) : Int)) ∧ xs[j * 2 + 1]? = some u ∧ W.ownsRow (bo + 1) 9 1 u ps.length (ps.map Value.string) ∧ dts ps = x.2
def WyAt (W : World) (bo n : Nat) (O : Nat → Way) : Prop :=
  ∃ xs : List Value, W.ownsRow bo 85 2 (.slice (some ⟨bo, 0, none⟩) n n) n xs ∧ ∀ j, j < n → WyCell W bo xs j (O j)
theorem WyAt.below {W W1 : World} {bo n : Nat} {O : Nat → Way} (h : WyAt W bo n O) (hb : Below W.heap.size W W1) : WyAt W1 bo n O := by
  obtain ⟨xs, h1, h2⟩ := h
  refine ⟨xs, ownsRow_below h1 hb, fun j hj => ?_⟩
  obtain ⟨u, ps, a, b, c, d⟩ := h2 j hj
  exact ⟨u, ps, a, b, ownsRow_below c hb, d⟩
theorem WyAt.lt {W : World} {bo n : Nat} {O : Nat → Way} (h : WyAt W bo n O) : bo < W.heap.size := by
  obtain ⟨xs, h1, _⟩ := h
  exact (World.ownsRow.lt h1 bo rfl).2
theorem WyAt.at_ {W : World} {bo n : Nat} {O : Nat → Way} (h : WyAt W bo n O) {j : Nat} (hj : j < n) :
    ∃ (u : Value) (ps : List ByteArray), W.cell? ⟨bo, j * 2, none⟩ = some (.int .i64 (((O j).1 : Nat) : Int)) ∧ W.cell? ⟨bo, j * 2 + 1, none⟩ = some u ∧ W.ownsRow (bo + 1) 9 1 u ps.length (ps.map Value.string) ∧ dts ps = (O j).2 := by
  obtain ⟨xs, h1, h2⟩ := h
  obtain ⟨u, ps, a, b, c, d⟩ := h2 j hj
  exact ⟨u, ps, by rw [h1.cellAt _ (by omega), a], by rw [h1.cellAt _ (by omega), b], c, d⟩
theorem WyAt.blk {W : World} {bo n : Nat} {O : Nat → Way} (h : WyAt W bo n O) :
    ∃ cur : Array Value, W.heap[bo]? = some (.cells cur 85 (0, 0)) ∧ cur.size = n * 2 ∧ n ≤ maxLen ∧ ∀ j, j < n → WyCell W bo cur.toList j (O j) := by
  obtain ⟨xs, ⟨hx, h1⟩, h2⟩ := h
  rcases h1 with ⟨e, _⟩ | ⟨g, cap, cur, e, _, hg, _, hm, hs, ht⟩
  · cases e
  · injection e with e1 _ e3
    injection e1 with e1
    injection e1 with e1
    subst e1 e3
    have : cur.toList = xs := by
      rw [← ht, List.take_of_length_le]
      rw [Array.length_toList, hs]
      exact Nat.le_refl _
    exact ⟨cur, hg, hs, hm, by rw [this]; exact h2⟩
theorem WyAt.set {W W1 : World} {bo n k : Nat} {O : Nat → Way} {cur : Array Value} (hs : cur.size = n * 2) (hm : n ≤ maxLen) (h : ∀ j, j < n → WyCell W bo cur.toList j (O j)) (hk : k < n) {x : Way} {u : Value} {ps : List ByteArray}
    (hu : W.ownsRow (bo + 1) 9 1 u ps.length (ps.map Value.string)) (hd : dts ps = x.2)
    (hw : Wrote bo (.cells (cur.toList.take (k * 2) ++ [.int .i64 ((x.1 : Nat) : Int), u] ++ cur.toList.drop (k * 2 + 2)).toArray 85 (0, 0)) W W1) : WyAt W1 bo n (setW O k x) := by
  have hl : cur.toList.length = n * 2 := by rw [Array.length_toList, hs]
  have hl2 : (cur.toList.take (k * 2) ++ [.int .i64 ((x.1 : Nat) : Int), u] ++ cur.toList.drop (k * 2 + 2)).length = n * 2 := by
    rw [List.length_append, List.length_append, List.length_take, List.length_drop, hl]
    show min (k * 2) (n * 2) + 2 + (n * 2 - (k * 2 + 2)) = n * 2
    omega
  refine ⟨_, ⟨hl2, .inr ⟨bo, n, _, rfl, Nat.le_refl _, hw.at_, Nat.le_refl _, hm, ?_, ?_⟩⟩, fun j hj => ?_⟩
  · rw [List.size_toArray, hl2]
  · rw [List.take_of_length_le (by rw [hl2]; exact Nat.le_refl _)]
  · by_cases hjk : j = k
    · subst hjk
      refine ⟨u, ps, ?_, ?_, ownsRow_wrote hu hw (by omega), ?_⟩
      · rw [splice_get _ _ _ _ (by omega), if_pos rfl]; unfold setW; rw [if_pos rfl]
      · rw [splice_get _ _ _ _ (by omega), if_neg (by omega), if_pos rfl]
      · unfold setW; rw [if_pos rfl]; exact hd
    · obtain ⟨u', ps', a, b, c, d⟩ := h j hj
      refine ⟨u', ps', ?_, ?_, ownsRow_wrote c hw (by omega), ?_⟩
      · rw [splice_get _ _ _ _ (by omega), if_neg (by omega), if_neg (by omega), a]; unfold setW; rw [if_neg hjk]
      · rw [splice_get _ _ _ _ (by omega), if_neg (by omega), if_neg (by omega), b]
      · unfold setW; rw [if_neg hjk]; exact d
theorem Tryz.info85 : (Tryz.prog.info? 85).map (fun i => (i.zero, i.size, i.bytes)) = some (some (.agg #[.int .i64 0, .slice none 0 0]), 2, 32) := by kernel_rfl
theorem zeros_get (a b : Value) (n : Nat) : ∀ j, j < n → (madeCells #[a, b] (n * 2)).toList[j * 2]? = some a ∧ (madeCells #[a, b] (n * 2)).toList[j * 2 + 1]? = some b := by
  intro j hj
  unfold madeCells
  have e1 : j * 2 % 2 = 0 := by omega
  have e2 : (j * 2 + 1) % 2 = 1 := by omega
  constructor
  · rw [Array.getElem?_toList, Array.getElem?_map, Array.getElem?_range, if_pos (by omega)]
    simp [e1]
  · rw [Array.getElem?_toList, Array.getElem?_map, Array.getElem?_range, if_pos (by omega)]
    simp [e2]
theorem WyAt.zero {W : World} {bo n : Nat} (h : W.ownsRow bo 85 2 (.slice (some ⟨bo, 0, none⟩) n n) n (madeCells #[.int .i64 0, .slice none 0 0] (n * 2)).toList) : WyAt W bo n fun _ => (0, []) := by
  refine ⟨_, h, fun j hj => ?_⟩
  obtain ⟨h1, h2⟩ := zeros_get (.int .i64 0) (.slice none 0 0) n j hj
  exact ⟨.slice none 0 0, [], h1, h2, World.ownsRow_nil _ _ _ _, rfl⟩

section
variable {P : Program} {ops : Array Oper} {rest : List Oper} {o : Oper} {a : Act} {w : World} {Q : Exit → Act → World → Prop}
/-- a struct is stored into a row -/
theorem wpList_store_part (hgd : o.guard = none) (ty : TypeId) (x y : Operand) (ho : o.op = .store ty x y)
    (g q : Nat) (hx : a.eval x = .pointer (some ⟨g, q, none⟩)) (t : TypeId) (cur : Array Value) (hg : w.heap[g]? = some (.cells cur t (0, 0)))
    (v : Value) (hy : a.eval y = v) (hi : (P.info? ty).map (·.size) = some v.cells.size) (hq : q + v.cells.size ≤ cur.size) (h1 : v.cells.toList.all (·.oneCell') = true)
    (h : ∀ w', Wrote g (.cells (cur.toList.take q ++ v.cells.toList ++ cur.toList.drop (q + v.cells.size)).toArray t (0, 0)) w w' → wpList P ops Q rest (a.put o.dst undef) w') : wpList P ops Q (o :: rest) a w := by
  refine wpList_plain hgd fun K hK => ?_
  have hst := run_storeCells_at P g q t v.cells.toList 0 cur w hg (by simpa using hq) (List.all_eq_true.1 h1)
  obtain ⟨i, hi1, hi2⟩ := Option.map_eq_some_iff.1 hi
  unfold Oper.wp
  simp [execOp, ho, hx, hy, Instr.storeAt, Instr.sureAddr, storeVar, sizeOf, typeInfo, hi1, hi2, hst, Result.andThen]
  refine hK _ _ (h _ ⟨rfl, rfl, rfl, by simp [World.setRow], ?_, fun k hk => setRow_other w g k _ hk⟩)
  have := setRow_heap w g cur (cur.toList.take (q + 0) ++ v.cells.toList ++ cur.toList.drop (q + 0 + v.cells.toList.length)).toArray t (0, 0) hg
  simpa using this
theorem wp_store_row {P : Program} {o : Oper} {a : Act} {w : World} {K : Act → World → Prop} {Q : Exit → Act → World → Prop} (ty : TypeId) (x y : Operand) (ho : o.op = .store ty x y)
    (g : Nat) (hx : a.eval x = .pointer (some ⟨g, 0, none⟩)) (t : TypeId) (cur : Array Value) (hg : w.heap[g]? = some (.cells cur t (0, 0)))
    (v : Value) (hy : a.eval y = v) (hi : (P.info? ty).map (·.size) = some cur.size) (hs : v.cells.size = cur.size) (h1 : v.cells.toList.all (·.oneCell') = true)
    (h : ∀ w', Wrote g (.cells v.cells t (0, 0)) w w' → K (a.put o.dst undef) w') : Oper.wp P o a w K Q := by
  have hst := run_storeCells_at P g 0 t v.cells.toList 0 cur w hg (by simp [hs]) (List.all_eq_true.1 h1)
  have e : (cur.toList.take (0 + 0) ++ v.cells.toList ++ cur.toList.drop (0 + 0 + v.cells.toList.length)).toArray = v.cells := by
    apply Array.ext'
    simp [hs]
  rw [e] at hst
  obtain ⟨i, hi1, hi2⟩ := Option.map_eq_some_iff.1 hi
  unfold Oper.wp
  simp [execOp, ho, hx, hy, Instr.storeAt, Instr.sureAddr, storeVar, sizeOf, typeInfo, hi1, hi2, hs, hst, Result.andThen]
  exact h _ ⟨rfl, rfl, rfl, by simp [World.setRow], setRow_heap w g cur _ t _ hg, fun k hk => setRow_other w g k _ hk⟩
theorem wp_append_strs {P : Program} {o : Oper} {a : Act} {w : World} {K : Act → World → Prop} {Q : Exit → Act → World → Prop} (s x : Operand) (t : TypeId)
    (ho : o.op = .call { callee := .builtin .append, args := #[s, x], argTypes := #[t, t] })
    (base : Nat) (i : TypeInfo) (ht : P.underlying t = some (.slice 9)) (hi : P.info? 9 = some i ∧ i.zero = some (.string ByteArray.empty) ∧ i.size = 1 ∧ i.bytes = 16)
    (v : Value) (L : List ByteArray) (hs : a.eval s = v) (hown : w.ownsRow base 9 1 v L.length (L.map Value.string))
    (sv : Value) (ss : List ByteArray) (hx : a.eval x = sv) (hst : StrsAt w sv ss)
    (h63 : L.length + ss.length ≤ 1000000000) (hbase : base ≤ w.heap.size)
    (h : ∀ v' w', w'.ownsRow base 9 1 v' (L ++ ss).length ((L ++ ss).map Value.string) → w.grownBy w' v.ownBlock → (v'.ownBlock = v.ownBlock ∨ v'.ownBlock = some w.heap.size) → K (a.put o.dst v') w') : Oper.wp P o a w K Q := by
  rcases hst with ⟨ao, cap, rfl, rfl⟩ | ⟨b, off, cap, rfl, hb, hc, hcell⟩
  · have h1 : w.ownsRow base 9 1 v (L ++ ([] : List ByteArray)).length ((L ++ []).map Value.string) := by simpa using hown
    have hK2 := h v w h1 ⟨rfl, rfl, rfl, Nat.le_refl _, fun _ _ _ => rfl⟩ (.inl rfl)
    obtain ⟨vao, vcap, hv⟩ := ownsRow_form hown
    have hle : L.length ≤ vcap := by
      rcases hown.2 with ⟨h0, h0'⟩ | ⟨g, cap', cur, hv', _, _, hnc, _⟩
      · omega
      · rw [hv] at hv'; injection hv' with _ _ e3; omega
    have hsrc : Src P i.size t (.slice ao 0 cap) 0 [] w := by
      cases ao with
      | none => exact Src.ofNil w ht cap
      | some ad => exact Src.ofSlice w ht ad 0 cap [] (by simp) (fun j u hj => by simp at hj) (fun u hu => by cases hu)
    have hr := run_append_nothing (P := P) w t t o.type 9 i ht hi.1 vao L.length vcap hle (.slice ao 0 cap) hsrc
    unfold Oper.wp execOp
    rw [hv] at hs hK2
    simp only [ho, resolve, invoke, builtin, Sem.run_bind, Sem.run_pure, Result.andThen_ok, List.map_toArray, List.map_cons, List.map_nil, hs, hx, hr]
    exact hK2
  · obtain ⟨v', w', hr, h2, h3, h4⟩ := run_append_own2 (P := P) w base t o.type 9 i (.string ByteArray.empty) 1 16 ht hi.1 hi.2.1 hi.2.2.1 hi.2.2.2 rfl (by decide) v L.length _ hown ⟨b, off, none⟩ ss.length cap (ss.map Value.string) (by simp) (fun j u hj => (by
      rw [List.getElem?_map] at hj
      cases hj2 : ss[j]? with
      | none => rw [hj2] at hj; cases hj
      | some y =>
        rw [hj2] at hj
        simp only [Option.map_some, Option.some.injEq] at hj
        subst hj
        have hjl := (List.getElem?_eq_some_iff.1 hj2).1
        have hadd : (⟨b, off, none⟩ : Addr).add j = ⟨b, off + j, none⟩ := by unfold Addr.add; split <;> simp_all
        rw [hadd, hcell j hjl, List.getD, hj2]
        rfl)) (fun u hu => (by
      obtain ⟨y, _, rfl⟩ := List.mem_map.1 hu
      rfl)) (by unfold maxLen; omega) (by omega) hbase
    unfold Oper.wp execOp
    simp only [ho, resolve, invoke, builtin, Sem.run_bind, Sem.run_pure, Result.andThen_ok, List.map_toArray, List.map_cons, List.map_nil, hs, hx, hr]
    exact h v' w' (by rw [List.length_append, List.map_append]; exact h2) h3 h4
end

theorem zs_atc {kd : IntKind} {w : World} {ao : Option Addr} {n cap : Nat} {zs : List Int} (h : SlAt 1 (fun z => [Value.int kd z]) w (.slice ao n cap) zs) {k : Nat} (hk : k < zs.length) :
    ∃ b off, ao = some ⟨b, off, none⟩ ∧ b < w.heap.size ∧ w.cell? ⟨b, off + k, none⟩ = some (.int kd (zs.getD k 0)) := by
  obtain ⟨b, off, h1, h2, h3⟩ := SlAt.at_ h hk
  refine ⟨b, off, h1, h2, ?_⟩
  have := h3 0 (.int kd (zs.getD k 0)) (by rw [List.getD, List.getElem?_eq_getElem hk]; rfl)
  rwa [Nat.mul_one, Nat.add_zero] at this

/-- the best way so far, in a variable of its own -/
def Bst (W0 : World) (bo bb : Nat) (W : World) (x : Way) : Prop :=
  W0.heap.size ≤ bb ∧ Below W0.heap.size W0 W ∧ ∃ (u : Value) (ps : List ByteArray), W.heap[bb]? = some (.cells #[.int .i64 ((x.1 : Nat) : Int), u] 85 (0, 0)) ∧ W.ownsRow (bo + 1) 9 1 u ps.length (ps.map Value.string) ∧ dts ps = x.2 ∧ u.ownBlock ≠ some bb
theorem Bst.lt {W0 W : World} {bo bb : Nat} {x : Way} (h : Bst W0 bo bb W x) : bb < W.heap.size := by
  obtain ⟨_, _, u, ps, h3, _⟩ := h
  exact (Array.getElem?_eq_some_iff.1 h3).1
theorem Bst.next {W0 W W1 : World} {bo bb : Nat} {x : Way} (h : Bst W0 bo bb W x) (hb : Below W.heap.size W W1) : Bst W0 bo bb W1 x := by
  have hl := h.lt
  obtain ⟨h1, h2, u, ps, h3, h4, h5, h6⟩ := h
  exact ⟨h1, h2.trans (hb.mono h2.size), u, ps, (hb.block bb hl).trans h3, ownsRow_below h4 hb, h5, h6⟩
/-- a row of another block than the one that is written -/
theorem ownsRow_far {w w1 : World} {base b : Nat} {o : Obj} {e : TypeId} {size : Nat} {v : Value} {n : Nat} {xs : List Value} (h : w.ownsRow base e size v n xs) (hw : Wrote b o w w1) (hb : v.ownBlock ≠ some b) : w1.ownsRow base e size v n xs :=
  ownsRow_kp h ((Kp.refl w.heap.size (· = b) w).wrote hw (.inr rfl)) fun k hk => ⟨(World.ownsRow.lt h k hk).2, fun e => hb (by rw [hk, e])⟩
theorem Bst.put {W0 W W1 : World} {bo bb : Nat} {x : Way} {u : Value} {ps : List ByteArray} (h1 : W0.heap.size ≤ bb) (h2 : Below W0.heap.size W0 W) (h4 : W.ownsRow (bo + 1) 9 1 u ps.length (ps.map Value.string)) (h5 : dts ps = x.2) (h6 : u.ownBlock ≠ some bb)
    (hw : Wrote bb (.cells #[.int .i64 ((x.1 : Nat) : Int), u] 85 (0, 0)) W W1) : Bst W0 bo bb W1 x :=
  ⟨h1, h2.trans (hw.below h1), u, ps, hw.at_, ownsRow_far h4 hw h6, h5, h6⟩
theorem names_size {ns : List Nd} (hS : Sound (grO ns)) {x : Way} {ps : List ByteArray} (h : ∀ b ∈ x.2, b ∈ idsG (grO ns)) (hd : dts ps = x.2) : ∀ s ∈ ps, s.size ≤ 9223372036854775807 := fun s hs =>
  ids_size hS (h _ (by rw [← hd]; exact List.mem_map.2 ⟨s, hs, rfl⟩))

set_option maxRecDepth 100000 in
/-- the better one of two ways whose names lie in rows of the call's own -/
theorem better_own {ns : List Nd} (hS : Sound (grO ns)) {bo bb : Nat} {M c : Nat} (hc : c ≤ 1000000) (x y : Way) (v1 v2 : Value) (p1 p2 : List ByteArray) (k1 : WyOk (grO ns) M c x) (k2 : WyOk (grO ns) M c y) (e1 : dts p1 = x.2) (e2 : dts p2 = y.2) (w : World)
    (h1 : w.ownsRow (bo + 1) 9 1 v1 p1.length (p1.map Value.string)) (h2 : w.ownsRow (bo + 1) 9 1 v2 p2.length (p2.map Value.string)) (n1 : v1.ownBlock ≠ some bb) (n2 : v2.ownBlock ≠ some bb) :
    Calls Tryz.prog 59 #[.agg #[.int .i64 ((x.1 : Nat) : Int), v1], .agg #[.int .i64 ((y.1 : Nat) : Int), v2]] w fun e w' => ∃ (v : Value) (p : List ByteArray), e = .returned (.agg #[.int .i64 (((betF x y).1 : Nat) : Int), v]) ∧
      w'.ownsRow (bo + 1) 9 1 v p.length (p.map Value.string) ∧ v.ownBlock ≠ some bb ∧ dts p = (betF x y).2 ∧ Below w.heap.size w w' := by
  have l1 : p1.length ≤ 1000000 := by rw [← dts_len, e1]; exact Nat.le_trans k1.2.1 hc
  have l2 : p2.length ≤ 1000000 := by rw [← dts_len, e2]; exact Nat.le_trans k2.2.1 hc
  refine (better_any x.1 y.1 v1 v2 p1 p2 l1 l2 (names_size hS k1.2.2 e1) (names_size hS k2.2.2 e2) w (StrsAt.of_row h1) (StrsAt.of_row h2)).mono ?_
  rintro e w' ⟨he, hb⟩
  rw [e1, e2] at he
  rw [betF_B]
  by_cases hq : betB x y = true
  · rw [if_pos hq] at he ⊢
    exact ⟨v2, p2, he, ownsRow_below h2 hb, n2, e2, hb⟩
  · rw [if_neg hq] at he ⊢
    exact ⟨v1, p1, he, ownsRow_below h1 hb, n1, e1, hb⟩
end Go.Proofs.YtfegmmafcopbpaaGreatDoor
