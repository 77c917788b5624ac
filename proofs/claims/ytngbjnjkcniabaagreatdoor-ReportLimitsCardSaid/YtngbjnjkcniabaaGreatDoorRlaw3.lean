/- The walk over the law ReportLimits. -/
import Derived.Test.YtngbjnjkcniabaaGreatDoorRlaw2
import Derived.Test.YtngbjnjkcniabaaGreatDoorRm0
import Derived.Lib.AppendStr
namespace Go.Proofs.YtngbjnjkcniabaaGreatDoor
open Go.RowKit

/-- the i-th result of the law -/
def limQ (i : Nat) : Qu := ⟨⟨(116 :: Lib.decDigits i).toArray⟩, 1, (i : Nat)⟩
def limL (n : Nat) : List Qu := (List.range n).map limQ
theorem limL_succ (n : Nat) : limL (n + 1) = limL n ++ [limQ n] := by unfold limL; rw [List.range_succ, List.map_append]; rfl
theorem limL_len (n : Nat) : (limL n).length = n := by unfold limL; rw [List.length_map, List.length_range]
theorem limQ_name (i : Nat) : nmQ (limQ i) = 116 :: Lib.decDigits i := by unfold limQ; simp
theorem dec_len {i : Nat} (h : i ≤ 5000) : (Lib.decDigits i).length ≤ 21 := by
  have := itoa_small (n := (i : Int)) (by omega) (by omega)
  rwa [Lib.itoa_nonneg] at this
theorem limQ_ok {i : Nat} (h : i ≤ 5000) : ¬ badR (limQ i) ∧ ¬ rangeR (limQ i) := by
  have hl := dec_len h
  have hp : partsF (limQ i).name.data.toList = 0 := by
    change partsF (nmQ (limQ i)) = 0
    rw [limQ_name]
    have h47 : (47 : UInt8) ∉ 116 :: Lib.decDigits i := by
      intro hm
      rcases List.mem_cons.1 hm with hm | hm
      · revert hm; decide
      · have := isDig_rng (dec_dig i _ hm)
        revert this; decide
    unfold partsF
    rw [if_neg (by rw [List.length_cons]; omega)]
    unfold pathF
    rw [pcs_no h47]
    have hn : nameF (116 :: Lib.decDigits i) = true := by
      unfold nameF
      rw [decide_eq_true (by rw [List.length_cons]; omega), decide_eq_true (by rw [List.length_cons]; omega)]
      simp only [Bool.true_and, List.all_eq_true]
      intro j hj
      have hj' := List.mem_range.1 hj
      unfold atF
      rw [List.getD, List.getElem?_eq_getElem hj']
      have hc : letF (116 :: Lib.decDigits i)[j] = true := by
        have hm := List.getElem_mem hj'
        rcases List.mem_cons.1 hm with hm | hm
        · rw [hm]; decide
        · have := isDig_rng (dec_dig i _ hm)
          unfold letF
          simp
          omega
      simp only [Option.getD_some]
      rw [hc]; rfl
    simp [hn]
  refine ⟨?_, ?_⟩
  · rintro (h1 | h1 | h1)
    · exact h1 hp
    · change (1 : Int) < 1 at h1; omega
    · change (3 : Int) < 1 at h1; omega
  · rintro (h1 | h1)
    · change ((i : Nat) : Int) < 0 at h1; omega
    · change (1125899906842624 : Int) < ((i : Nat) : Int) at h1; omega
theorem limL_ok {n : Nat} (h : n ≤ 5001) : ∀ q ∈ limL n, ¬ badR q ∧ ¬ rangeR q := by
  intro q hq
  obtain ⟨i, hi, rfl⟩ := List.mem_map.1 hq
  exact limQ_ok (by have := List.mem_range.1 hi; omega)
theorem limL_nodup (n : Nat) : ((limL n).map nmQ).Nodup := by
  unfold limL
  rw [List.map_map]
  refine List.Pairwise.map _ (fun a b hab => ?_) (List.nodup_range (n := n))
  intro e
  simp only [Function.comp, limQ_name] at e
  injection e with _ e
  exact hab (by rw [← dec_num a, e, dec_num])
theorem lim_valid {n : Nat} (h : n ≤ 4096) : validR (limL n) = 0 := (validR_iff _).2 ⟨by rw [limL_len]; exact h, limL_ok (by omega), limL_nodup n⟩
theorem lim_over {n : Nat} (h : 4096 < n) : validR (limL n) = 15 := by unfold validR; rw [limL_len, if_pos h]
theorem limL_split {n : Nat} (h : 4096 < n) : ∃ r, r ≠ [] ∧ limL n = limL 4096 ++ r := by
  obtain ⟨m, rfl⟩ : ∃ m, n = 4096 + (m + 1) := ⟨n - 4097, by omega⟩
  refine ⟨(List.range (m + 1)).map fun j => limQ (4096 + j), by simp, ?_⟩
  unfold limL
  rw [List.range_add, List.map_append, List.map_map]
  rfl
theorem lim_parse_over {n : Nat} (h : 4096 < n) : parseF (linesV (limL n)) = ([], 4097, 15) := by
  obtain ⟨r, hr, he⟩ := limL_split h
  have hs : linesV (limL n) = linesV (limL 4096) ++ linesV r := by rw [he]; unfold linesV; rw [List.flatMap_append]
  rw [hs]
  have hv : vTo [] (limL 4096) = 0 := (validR_all (lim_valid (Nat.le_refl _))).2
  have hl := lines_len (limL 4096)
  rw [limL_len] at hl
  unfold parseF
  obtain ⟨f, hf⟩ : ∃ f, (linesV (limL 4096) ++ linesV r).length + 1 = (f + 1) + (limL 4096).length := ⟨(linesV (limL 4096) ++ linesV r).length - 4096, by rw [limL_len, List.length_append]; omega⟩
  have h2 := read_lines (linesV r) (limL 4096) [] (f + 1) 1 hv (by rw [limL_len]; decide)
  rw [List.map_nil, List.nil_append, limL_len] at h2
  rw [hf, limL_len, h2]
  have hne : linesV r ≠ [] := by
    intro e
    have h1 := lines_len r
    rw [e] at h1
    have h2 := List.length_pos_iff.2 hr
    have h3 : r.length ≤ 0 := h1
    omega
  rw [parseTo, if_neg hne, if_pos (by decide)]
theorem lim_line_len {n : Nat} (h : n ≤ 5001) : (linesV (limL n)).length ≤ 60 * n := by
  unfold limL linesV
  rw [List.flatMap_map]
  induction n with
  | zero => simp
  | succ n ih =>
    rw [List.range_succ, List.flatMap_append, List.length_append]
    have := ih (by omega)
    have h2 : (lineV (limQ n)).length ≤ 60 := by
      have hd := dec_len (i := n) (by omega)
      unfold lineV limQ
      rw [show Lib.itoa ((n : Nat) : Int) = Lib.decDigits n from Lib.itoa_nonneg n]
      have hw := wordV_len 1
      simp only [List.length_append, List.length_cons, List.length_nil]
      simp
      have : (wordV 1).length = 4 := by decide
      omega
    simp only [List.flatMap_cons, List.flatMap_nil, List.append_nil]
    omega

theorem rows_apart {w : World} {b1 b2 e1 e2 s1 s2 n1 n2 : Nat} {v1 v2 : Value} {x1 x2 : List Value} (h1 : w.ownsRow b1 e1 s1 v1 n1 x1) (h2 : w.ownsRow b2 e2 s2 v2 n2 x2) (he : e1 ≠ e2) : v1.ownBlock = none ∨ v1.ownBlock ≠ v2.ownBlock := by
  rcases h1.2 with ⟨rfl, _⟩ | ⟨g, c, cur, rfl, _, hg, _⟩
  · exact .inl rfl
  · rcases h2.2 with ⟨rfl, _⟩ | ⟨g', c', cur', rfl, _, hg', _⟩
    · right; intro h; cases h
    · right
      intro h
      have hgg : g = g' := by injection h
      subst hgg
      rw [hg] at hg'
      injection hg' with hg'
      injection hg' with _ h3
      exact he h3
theorem row_kept {w w' : World} {b1 b2 e1 e2 s1 s2 n1 n2 : Nat} {v1 v2 : Value} {x1 x2 : List Value} (h1 : w.ownsRow b1 e1 s1 v1 n1 x1) (h2 : w.ownsRow b2 e2 s2 v2 n2 x2) (he : e1 ≠ e2) (hg : w.grownBy w' v2.ownBlock) : w'.ownsRow b1 e1 s1 v1 n1 x1 :=
  h1.kept (row := v2.ownBlock) hg (rows_apart h1 h2 he)

abbrev bcells (l : List UInt8) : List Value := l.map fun b => Value.int .u8 (b.toNat : Int)
def LimRel (w1 : World) (n : Nat) (f : Nat) (t3 t4 t5 : Value) (wr : World) : Prop :=
  ∃ k : Nat, t5 = .int .i64 (k : Nat) ∧ k ≤ n ∧ f = n - k ∧ TrRow wr w1.heap.size t3 (limL k) ∧ wr.ownsRow w1.heap.size 5 1 t4 (linesV (limL k)).length (bcells (linesV (limL k))) ∧ Below w1.heap.size w1 wr
theorem Tryz.info5 : (Tryz.prog.info? 5).map (fun i => (i.zero, i.size, i.bytes)) = some (some (.int .u8 0), 1, 1) := by kernel_rfl
theorem Tryz.info5' : ∃ i, Tryz.prog.info? 5 = some i ∧ i.zero = some (.int .u8 0) ∧ i.size = 1 ∧ i.bytes = 1 := info_parts Tryz.info5

set_option maxRecDepth 100000 in
set_option maxHeartbeats 3200000 in
theorem limits_law (n : Int) (w : World) (hB : Base36 w) : Calls Tryz.prog 6 #[.int .i64 n] w (LawPost w) := by
  have LV := Lib.hid (lives_at hB)
  have HBA := Lib.hid hB
  clear hB
  go_enter Tryz.func6, Tryz.ntmps6
  by_cases h0 : n < 0
  · go_wp2_with fail
    refine (LV.out _ (Below.refl _ _)).mono ?_
    rintro e w9 ⟨rfl, hb⟩
    have HB := Lib.hid hb
    clear hb
    go_wp2_with fail
    go_ret
    exact ⟨rfl, HB.out⟩
  by_cases h5 : 5000 < n
  · go_wp2_with fail
    refine (LV.out _ (Below.refl _ _)).mono ?_
    rintro e w9 ⟨rfl, hb⟩
    have HB := Lib.hid hb
    clear hb
    go_wp2_with fail
    go_ret
    exact ⟨rfl, HB.out⟩
  obtain ⟨m, rfl⟩ : ∃ m : Nat, n = (m : Int) := ⟨n.toNat, by omega⟩
  have hm : m ≤ 5000 := by omega
  obtain ⟨i41, hi41, hz41, hn41, hy41⟩ := Tryz.info45'
  have HI := Lib.hid hi41
  obtain ⟨i5, hi5, hz5, hn5, hy5⟩ := Tryz.info5'
  have HI5 := Lib.hid hi5
  clear hi41 hi5
  go_wp2_with fail
  go_loopg [3, 4, 5] m (LimRel w m)
  case atStart => exact ⟨0, rfl, Nat.zero_le _, rfl, World.ownsRow_nil _ _ _ _, World.ownsRow_nil _ _ _ _, Below.refl _ _⟩
  case round =>
    obtain ⟨k, rfl, hk, rfl, hr, hbr, hbel⟩ := hrel
    have HR := Lib.hid hr
    have HBR := Lib.hid hbr
    have HBE := Lib.hid hbel
    have hbs := hbel.size
    obtain ⟨lo, lc, rfl⟩ := ownsRow_form hr
    obtain ⟨bo, bc, rfl⟩ := ownsRow_form hbr
    have HLL := Lib.hid (limL_len k)
    rw [HLL.out]
    clear hr hbr hbel
    by_cases hlt : k < m
    · have hii : (k : Int) < (m : Int) := by omega
      have DQ := Lib.hid (decimal_any k (by omega) wr)
      have hdl := dec_len (i := k) (by omega)
      have hln := lim_line_len (n := k) (by omega)
      have HNM : Hid ((⟨#[116]⟩ : ByteArray) ++ ⟨(Lib.decDigits k).toArray⟩ = (limQ k).name) := by
        unfold Hid limQ
        exact str_lit2 (by rw [str_app]; simp)
      have LN : ∀ W, Hid (Calls Tryz.prog 24 #[.agg #[.string ((⟨#[116]⟩ : ByteArray) ++ ⟨(Lib.decDigits k).toArray⟩), .int .i64 1, .int .i64 (k : Nat)]] W fun e w' => e = .returned (.string ⟨(lineV (limQ k)).toArray⟩) ∧ Below W.heap.size W w') := fun W => by
        unfold Hid
        rw [HNM.out]
        exact line_any (limQ k) (by rw [Lib.size_eq]; show (nmQ (limQ k)).length ≤ _; rw [limQ_name, List.length_cons]; omega) (show (0 : Int) ≤ (k : Nat) by omega) (show ((k : Nat) : Int) ≤ _ by omega) W
      have hl2 : (lineV (limQ k)).length ≤ 60 := by
        have hd := dec_len (i := k) (by omega)
        unfold lineV limQ
        rw [show Lib.itoa ((k : Nat) : Int) = Lib.decDigits k from Lib.itoa_nonneg k]
        have : (wordV 1).length = 4 := by decide
        simp
        omega
      have HS3 := Lib.hid (limL_succ k)
      have HLS : Hid (linesV (limL (k + 1)) = linesV (limL k) ++ lineV (limQ k)) := by
        unfold Hid; rw [HS3.out]; unfold linesV; rw [List.flatMap_append]; simp
      have hds : (⟨(Lib.decDigits k).toArray⟩ : ByteArray).size ≤ 21 := by rw [Lib.size_eq]; simpa using hdl
      have g1 : ¬ 9223372036854775807 < 1 + (⟨(Lib.decDigits k).toArray⟩ : ByteArray).size := by omega
      have hls : (⟨(lineV (limQ k)).toArray⟩ : ByteArray).size ≤ 60 := by rw [Lib.size_eq]; simpa using hl2
      have HLC : Hid (Lib.strCells ⟨(lineV (limQ k)).toArray⟩ = bcells (lineV (limQ k))) := by unfold Hid Lib.strCells; simp
      have HLZ : Hid ((⟨(lineV (limQ k)).toArray⟩ : ByteArray).size = (lineV (limQ k)).length) := by unfold Hid; rw [Lib.size_eq]
      generalize (⟨(lineV (limQ k)).toArray⟩ : ByteArray) = ls at *
      go_wp2_with fail
      refine DQ.out.mono ?_
      rintro e w2 ⟨rfl, rfl⟩
      clear DQ
      generalize (⟨(Lib.decDigits k).toArray⟩ : ByteArray) = ds at *
      obtain ⟨W4, hW4⟩ : ∃ W, w2.alloc (.cells #[.string (⟨#[116]⟩ ++ ds), .int .i64 1, .int .i64 (k : Nat)] 41 (0, 0)) = W := ⟨_, rfl⟩
      have HK4 : Hid (W4.heap[w2.heap.size]? = some (.cells #[.string (⟨#[116]⟩ ++ ds), .int .i64 1, .int .i64 (k : Nat)] 41 (0, 0))) := by unfold Hid; rw [← hW4]; exact hp_new rfl
      have hb4 : Below w2.heap.size w2 W4 := by rw [← hW4]; exact (Below.refl _ _).alloc (Nat.le_refl _) _
      have HB4 := Lib.hid (HBE.out.trans (hb4.mono hbs))
      have HR2' : Hid (w2.ownsRow w.heap.size 41 3 (.slice lo k lc) k ((limL k).flatMap Qu.cells)) := by
        have := HR.out
        unfold TrRow at this
        rw [HLL.out] at this
        exact this
      have HR4' : Hid (W4.ownsRow w.heap.size 41 3 (.slice lo k lc) k ((limL k).flatMap Qu.cells)) := ownsRow_below HR2'.out hb4
      have HBR4 := Lib.hid (ownsRow_below HBR.out hb4)
      have hs4 := HB4.out.size
      have c0 : W4.cell? ⟨w2.heap.size, 0, none⟩ = some (.string (⟨#[116]⟩ ++ ds)) := cell_of_blk HK4.out 0
      have c1 : W4.cell? ⟨w2.heap.size, 1, none⟩ = some (.int .i64 1) := cell_of_blk HK4.out 1
      have c2 : W4.cell? ⟨w2.heap.size, 2, none⟩ = some (.int .i64 (k : Nat)) := cell_of_blk HK4.out 2
      clear hb4
      go_upto_region 9 with fail
      go_wp2_with (at_builtin; refine wpList_append2 rfl _ _ 23 rfl w.heap.size 41 i41 (.agg #[.string ByteArray.empty, .int .i64 0, .int .i64 0]) 3 32 Tryz.underlying23 ⟨HI.out, hz41, hn41, hy41⟩ rfl (by decide) _ _ _ rfl (HR4'.out.alloc _) ⟨W4.heap.size, 0, none⟩ 1 1 [.string (⟨#[116]⟩ ++ ds), .int .i64 1, .int .i64 (k : Nat)] rfl rfl (cells_newAt rfl _ 41 (0, 0)) rfl (by unfold maxLen; omega) (by omega) (by simp; omega) ?_)
      intro v' w5 hown hgrow hwh
      obtain ⟨ao', cap', rfl⟩ := ownsRow_form hown
      have HBR5 := Lib.hid (row_kept (HBR4.out.alloc (.cells #[.string (⟨#[116]⟩ ++ ds), .int .i64 1, .int .i64 (k : Nat)] 41 (0, 0))) (HR4'.out.alloc (.cells #[.string (⟨#[116]⟩ ++ ds), .int .i64 1, .int .i64 (k : Nat)] 41 (0, 0))) (by decide) hgrow)
      have hlt4 : w2.heap.size < W4.heap.size := (Array.getElem?_eq_some_iff.1 HK4.out).1
      have HK5 := Lib.hid ((hgrow.block w2.heap.size (by simp; omega) (fun e => by have := (HR2'.out.lt _ e.symm).2; omega)).trans ((hp_old (by omega)).trans HK4.out))
      have HB5 := Lib.hid ((HB4.out.alloc hs4 (.cells #[.string (⟨#[116]⟩ ++ ds), .int .i64 1, .int .i64 (k : Nat)] 41 (0, 0))).grown hgrow (by simp; omega) (fun j hj => (HR4'.out.lt j hj).1))
      have HO5 : Hid (w5.ownsRow w.heap.size 41 3 (.slice ao' (k + 1) cap') (k + 1) ((limL (k + 1)).flatMap Qu.cells)) := by
        unfold Hid
        rw [HS3.out, List.flatMap_append]
        have e : ([limQ k] : List Qu).flatMap Qu.cells = [.string (⟨#[116]⟩ ++ ds), .int .i64 1, .int .i64 (k : Nat)] := by rw [HNM.out]; rfl
        rw [e]
        exact hown
      have d0 : w5.cell? ⟨w2.heap.size, 0, none⟩ = some (.string (⟨#[116]⟩ ++ ds)) := cell_of_blk HK5.out 0
      have d1 : w5.cell? ⟨w2.heap.size, 1, none⟩ = some (.int .i64 1) := cell_of_blk HK5.out 1
      have d2 : w5.cell? ⟨w2.heap.size, 2, none⟩ = some (.int .i64 (k : Nat)) := cell_of_blk HK5.out 2
      have hs5 := HB5.out.size
      have LNW := Lib.hid (LN w5).out
      clear hown hgrow hwh c0 c1 c2 LN HBR4 HR2' HR4' HK4 HB4 hs4 hlt4 HBR HR HBE hbs hW4 HK5
      go_wp2_with fail
      refine LNW.out.mono ?_
      rintro e w6 ⟨rfl, hb⟩
      have HB6 := Lib.hid (HB5.out.trans (hb.mono hs5))
      have HBR6 := Lib.hid (ownsRow_below HBR5.out hb)
      have HO6 := Lib.hid (ownsRow_below HO5.out hb)
      have hs6 := HB6.out.size
      clear hb d0 d1 d2 LNW HBR5 HO5 HB5 hs5
      generalize hbn : (linesV (limL k)).length = bn at *
      have HBN := Lib.hid hbn
      clear hbn
      go_wp2_with (at_builtin; refine Lib.wpList_append_own_string _ rfl _ _ 38 9 rfl w.heap.size 5 i5 Tryz.underlying38 Tryz.underlying9 HI5.out hz5 hn5 hy5 _ bn _ rfl HBR6.out ls rfl (by unfold maxLen; omega) (by omega) hs6 ?_)
      intro v' w7 hown hgrow hwh
      obtain ⟨bo', bc', rfl⟩ := ownsRow_form hown
      have HO7 := Lib.hid (row_kept HO6.out HBR6.out (by decide) hgrow)
      have HB7 := Lib.hid (HB6.out.grown hgrow hs6 (fun j hj => (HBR6.out.lt j hj).1))
      have HOWN := Lib.hid hown
      clear hown hgrow hwh HO6 HBR6
      go_wp2_with fail
      go_roundg (m - (k + 1))
      case measure => omega
      case rel =>
        refine ⟨k + 1, by go_num, by omega, rfl, ?_, ?_, HB7.out⟩
        · unfold TrRow
          rw [limL_len]
          exact HO7.out
        · have e : bcells (linesV (limL k) ++ lineV (limQ k)) = bcells (linesV (limL k)) ++ bcells (lineV (limQ k)) := List.map_append ..
          rw [HLS.out, List.length_append, e, ← HLC.out, ← HLZ.out, HBN.out]
          exact HOWN.out
    · have hii : ¬ (k : Int) < (m : Int) := by omega
      have hke : k = m := by omega
      subst hke
      have VA := Lib.hid (valid_b (.slice lo k lc) (limL k) wr (by have := TrRow.at HR.out; rw [HLL.out] at this; exact this) (HBA.out.below HBE.out))
      have hln := lim_line_len (n := k) (by omega)
      go_wp2_with fail
      refine VA.out.mono ?_
      rintro e w3 ⟨rfl, hb⟩
      have HB3 := Lib.hid (HBE.out.trans (hb.mono hbs))
      have HBR3 := Lib.hid (ownsRow_below HBR.out hb)
      clear hb VA
      have hsz : (⟨(linesV (limL k)).toArray⟩ : ByteArray).size ≤ 900000 := by rw [Lib.size_eq]; simp; omega
      have PA := Lib.hid (parse_b ⟨(linesV (limL k)).toArray⟩ hsz w3 (HBA.out.below HB3.out))
      have HDD : Hid ((⟨(linesV (limL k)).toArray⟩ : ByteArray).data.toList = linesV (limL k)) := by unfold Hid; simp
      generalize hst : (⟨(linesV (limL k)).toArray⟩ : ByteArray) = st at *
      have HST := Lib.hid hst
      clear hst
      go_wp2_with (refine wpList_str_of_bytes rfl 38 9 5 _ rfl Tryz.underlying38 Tryz.underlying5 Tryz.underlying9 _ rfl w.heap.size _ (linesV (limL k)) HBR3.out ?_)
      rw [HST.out]
      go_wp2_with fail
      refine PA.out.mono ?_
      rintro e w4 ⟨v4, q4, rfl, hr4, hm4, hb⟩
      have HB4 := Lib.hid (HB3.out.trans (hb.mono HB3.out.size))
      change q4.map qv = (parseF st.data.toList).1.map rv at hm4
      obtain ⟨o4, c4, rfl⟩ := ownsRow_form hr4
      clear hb hr4 PA
      by_cases hbig : 4096 < k
      · have hp : parseF st.data.toList = ([], 4097, 15) := by rw [HDD.out]; exact lim_parse_over hbig
        have hv := lim_over hbig
        rw [hp] at hm4 ⊢
        rw [hv]
        have hq4 : q4 = [] := by simpa using hm4
        subst hq4
        have hbi : (4096 : Int) < (k : Int) := by omega
        clear hm4 hp hv hbig
        go_wp2_with fail
        refine (LV.out _ HB4.out).mono ?_
        rintro e w9 ⟨rfl, hb⟩
        have HB := Lib.hid hb
        clear hb
        go_wp2_with fail
        go_ret
        exact ⟨rfl, HB.out⟩
      · have hv := lim_valid (n := k) (by omega)
        have hp : parseF st.data.toList = ((limL k).map tr, 0, 0) := by rw [HDD.out]; exact parse_lines hv
        rw [hp] at hm4 ⊢
        rw [hv]
        change q4.map qv = ((limL k).map tr).map rv at hm4
        rw [tr_qv (limL_ok (by omega))] at hm4
        have hq4 : q4.length = k := by rw [qv_inj hm4]; exact limL_len k
        have hbi : ¬ (4096 : Int) < (k : Int) := by omega
        rw [hq4]
        clear hm4 hp hv hbig hq4
        go_wp2_with fail
        refine (LV.out _ HB4.out).mono ?_
        rintro e w9 ⟨rfl, hb⟩
        have HB := Lib.hid hb
        clear hb
        go_wp2_with fail
        go_ret
        exact ⟨rfl, HB.out⟩

end Go.Proofs.YtngbjnjkcniabaaGreatDoor
