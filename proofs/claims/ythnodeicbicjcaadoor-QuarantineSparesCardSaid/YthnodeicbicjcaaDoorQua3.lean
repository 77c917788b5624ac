/- The walks that make lists of quarantined tests: kept, Expire, Clone; Same. -/
import Derived.Test.YthnodeicbicjcaaDoorQua2
import Derived.Lib.SliceRun
namespace Go.Proofs.YthnodeicbicjcaaDoor
open Go.RowKit

theorem Tryd.info48 : (Tryd.prog.info? 48).map (fun i => (i.zero, i.size, i.bytes)) = some (some (.agg #[.string ByteArray.empty, .int .i64 0, .int .i64 0]), 3, 32) := by kernel_rfl
theorem Tryd.info48' : ∃ i, Tryd.prog.info? 48 = some i ∧ i.zero = some (.agg #[.string ByteArray.empty, .int .i64 0, .int .i64 0]) ∧ i.size = 3 ∧ i.bytes = 32 := info_parts Tryd.info48

/-- a list of the call's own -/
def QuRow (w : World) (base : Nat) (v : Value) (qs : List Qu) : Prop := w.ownsRow base 48 3 v qs.length (qs.flatMap Qu.cells)
theorem QuRow.at {w : World} {base : Nat} {v : Value} {qs : List Qu} (h : QuRow w base v qs) : QuAt w v qs := SlAt.of_row h Qu.cells_len (by decide)

def RowPost (qs : List Qu) (w : World) (e : Ending) (w' : World) : Prop := ∃ v, e = .returned v ∧ QuRow w' w.heap.size v qs ∧ Below w.heap.size w w'

def KeptRel (w1 : World) (p : Qu → Bool) (qs : List Qu) (f : Nat) (t5 t10 : Value) (wr : World) : Prop :=
  ∃ k : Nat, t10 = .int .i64 (k : Nat) ∧ k ≤ qs.length ∧ f = qs.length - k ∧ QuRow wr w1.heap.size t5 ((qs.take k).filter p) ∧ Below w1.heap.size w1 wr

theorem filter_snoc {p : Qu → Bool} {qs : List Qu} {k : Nat} (hk : k < qs.length) (hp : p qs[k] = true) : (qs.take (k + 1)).filter p = (qs.take k).filter p ++ [qs[k]] := by
  rw [List.take_add_one, List.filter_append, List.getElem?_eq_getElem hk]
  simp [hp]
theorem filter_skip {p : Qu → Bool} {qs : List Qu} {k : Nat} (hk : k < qs.length) (hp : p qs[k] = false) : (qs.take (k + 1)).filter p = (qs.take k).filter p := by
  rw [List.take_add_one, List.filter_append, List.getElem?_eq_getElem hk]
  simp [hp]

set_option maxRecDepth 100000 in
set_option maxHeartbeats 800000 in
theorem kept_any (C : Nat) (now : Int) (v : Value) (qs : List Qu) (hn : qs.length ≤ 1000000) (w : World) (h : QuAt w v qs) (hC : C < w.heap.size) (hc : w.cell? ⟨C, 0, none⟩ = some (.int .i64 now)) :
    Calls Tryd.prog 34 #[v, .func (.func 35) #[] #[.pointer (some ⟨C, 0, none⟩)]] w (RowPost (qs.filter fun q => decide (now < q.til)) w) := by
  obtain ⟨ao, cap, rfl⟩ := h.form
  obtain ⟨i48, hi48⟩ := Tryd.info48'
  have HI := Lib.hid hi48
  have H := Lib.hid h
  have HCC := Lib.hid hc
  clear h hi48 hc
  go_enter Tryd.func34, Tryd.ntmps34
  go_wp2_with fail
  go_loopg [5, 10] qs.length (KeptRel w (fun q => decide (now < q.til)) qs)
  case atStart => exact ⟨0, rfl, Nat.zero_le _, rfl, World.ownsRow_nil _ _ _ _, Below.refl _ _⟩
  case round =>
    obtain ⟨k, rfl, hk, rfl, hrow, hbel⟩ := hrel
    obtain ⟨ro, rcap, rfl⟩ := ownsRow_form hrow
    have HR := Lib.hid hrow
    have HB := Lib.hid hbel
    have hfl : ((qs.take k).filter fun q => decide (now < q.til)).length ≤ qs.length := Nat.le_trans (List.length_filter_le _ _) (List.length_take_le' _ _)
    clear hrow hbel
    by_cases hlt : k < qs.length
    · obtain ⟨b, off, rfl, hbl, c0, c1, c2⟩ := QuAt.at3 (SlAt.below H.out HB.out) hlt
      have hii : (k : Int) < (qs.length : Int) := by omega
      have HHIT := Lib.hid (fun h => filter_snoc (p := fun q => decide (now < q.til)) hlt h)
      have HSN := Lib.hid (fun h => filter_skip (p := fun q => decide (now < q.til)) hlt h)
      generalize qs[k] = q at *
      have hzr := HB.out.size
      go_wp2_with fail
      have hb1 : Below w.heap.size w (wr.alloc (.cells #[.string q.name, .int .i64 q.since, .int .i64 q.til] 48)) := HB.out.alloc hzr _
      have hc1 : (wr.alloc (.cells #[.string q.name, .int .i64 q.since, .int .i64 q.til] 48)).cell? ⟨C, 0, none⟩ = some (.int .i64 now) := (hb1.cell (p := ⟨C, 0, none⟩) hC).trans HCC.out
      refine (expire1_any q now C _ (by simp; omega) hc1).mono ?_
      rintro e w2 ⟨rfl, hb⟩
      have hz2 := hb.size
      simp only [World.size_alloc] at hz2
      have hblk : w2.heap[wr.heap.size]? = some (.cells #[.string q.name, .int .i64 q.since, .int .i64 q.til] 48) := (hb.block _ (by simp)).trans (hp_new rfl)
      have m0 : w2.cell? ⟨wr.heap.size, 0, none⟩ = some (.string q.name) := by rw [cell_of_blk hblk]; rfl
      have m1 : w2.cell? ⟨wr.heap.size, 1, none⟩ = some (.int .i64 q.since) := by rw [cell_of_blk hblk]; rfl
      have m2 : w2.cell? ⟨wr.heap.size, 2, none⟩ = some (.int .i64 q.til) := by rw [cell_of_blk hblk]; rfl
      have HB2 := Lib.hid (hb1.trans (hb.mono hb1.size))
      have HR2 := Lib.hid (show w2.ownsRow w.heap.size 48 3 _ _ _ from ownsRow_below ((show wr.ownsRow w.heap.size 48 3 _ _ _ from HR.out).alloc _) hb)
      clear hb hblk hb1 hc1
      cases hp : decide (now < q.til) with
      | true =>
        have hf := HHIT.out hp
        have HF := Lib.hid hf
        clear hp hf
        go_wp2_with (at_builtin; refine wpList_append2 rfl _ _ 22 rfl w.heap.size 48 i48 (.agg #[.string ByteArray.empty, .int .i64 0, .int .i64 0]) 3 32 Tryd.underlying22 HI.out rfl (by decide) _ _ _ rfl (HR2.out.alloc _) ⟨w2.heap.size, 0, none⟩ 1 1 q.cells rfl rfl (cells_newAt rfl _ 48 (0, 0)) rfl (by unfold maxLen; omega) (by omega) (by have := HB2.out.size; simp; omega) ?_)
        intro v' w3 hown hgrow hwh
        obtain ⟨ao', cap', rfl⟩ := ownsRow_form hown
        have HOWN := Lib.hid hown
        have HBG := Lib.hid ((HB2.out.alloc HB2.out.size _).grown hgrow (by have := HB2.out.size; simp; omega) (fun j hj => (HR2.out.lt j hj).1))
        clear hown hgrow hwh
        go_wp2_with fail
        go_roundg (qs.length - (k + 1))
        case measure => omega
        case rel =>
          refine ⟨k + 1, by go_num, by omega, rfl, ?_, HBG.out⟩
          rw [HF.out]
          have := HOWN.out
          unfold QuRow
          rw [List.length_append, List.flatMap_append]
          simpa using this
      | false =>
        have hf := HSN.out hp
        have HF := Lib.hid hf
        clear hp hf
        go_wp2_with fail
        go_roundg (qs.length - (k + 1))
        case measure => omega
        case rel =>
          refine ⟨k + 1, by go_num, by omega, rfl, ?_, HB2.out⟩
          rw [HF.out]
          exact HR2.out
    · have hk' : k = qs.length := by omega
      subst hk'
      rw [List.take_length] at HR
      go_wp2_with fail
      go_ret
      exact ⟨_, rfl, by have := HR.out; rw [List.take_length] at *; exact this, HB.out⟩

theorem flat_all {α : Type} {sz : Nat} {f : α → List Value} (hf : ∀ x, (f x).length = sz) : ∀ (xs : List α) (P : Nat → Value → Prop), (∀ (k : Nat) (hk : k < xs.length) (j : Nat) (u : Value), (f xs[k])[j]? = some u → P (k * sz + j) u) → ∀ (j : Nat) (u : Value), (xs.flatMap f)[j]? = some u → P j u
  | [], P, h, j, u, hj => by simp at hj
  | x :: xs, P, h, j, u, hj => by
    rw [List.flatMap_cons] at hj
    by_cases hlt : j < sz
    · rw [List.getElem?_append_left (by rw [hf]; exact hlt)] at hj
      have := h 0 (by simp) j u hj
      simpa using this
    · rw [List.getElem?_append_right (by rw [hf]; omega), hf] at hj
      have := flat_all hf xs (fun i u => P (i + sz) u) (fun k hk j u hu => by
        have := h (k + 1) (by simp; omega) j u hu
        rw [show k * sz + j + sz = (k + 1) * sz + j by rw [Nat.add_mul]; omega]
        exact this) (j - sz) u hj
      rw [show j - sz + sz = j by omega] at this
      exact this

theorem SlAt.flat {α : Type} {sz : Nat} {f : α → List Value} (hf : ∀ x, (f x).length = sz) {w : World} {b off sp : _} {n cap : Nat} {xs : List α} (h : SlAt sz f w (.slice (some ⟨b, off, sp⟩) n cap) xs) :
    ∀ (j : Nat) (u : Value), (xs.flatMap f)[j]? = some u → w.cell? ((⟨b, off, sp⟩ : Addr).add j) = some u := by
  rcases h with ⟨ao, cap, _, rfl⟩ | ⟨b', off', cap, e, h2, h3⟩
  · intro j u hj; simp at hj
  · injection e with e1 e2 e3
    injection e1 with e1
    injection e1 with e1 e4 e5
    subst e1; subst e4; subst e5
    have hadd : ∀ j, (⟨b, off, none⟩ : Addr).add j = ⟨b, off + j, none⟩ := by intro j; unfold Addr.add; split <;> simp_all
    intro j u hj
    rw [hadd]
    exact flat_all hf xs (fun i u => w.cell? ⟨b, off + i, none⟩ = some u) (fun k hk j u hu => by rw [← Nat.add_assoc]; exact h3 k hk j u hu) j u hj

set_option maxRecDepth 100000 in
set_option maxHeartbeats 800000 in
theorem clone_any (v : Value) (qs : List Qu) (hn : qs.length ≤ 1000000) (w : World) (h : QuAt w v qs) :
    Calls Tryd.prog 24 #[v] w (RowPost qs w) := by
  obtain ⟨ao, cap, rfl⟩ := h.form
  obtain ⟨i48, hi48⟩ := Tryd.info48'
  have HI := Lib.hid hi48
  have H := Lib.hid h
  have qq : ∀ (w : World) (a : Option Addr) (n c n' c' : Nat), (binOp .eql 22 (.slice a n c) (.slice none n' c')).run Tryd.prog w = .ok (.bool a.isNone) w := fun w a n c n' c' => Lib.run_eql_slice_nil w _ _ a n c n' c' Tryd.underlying22
  clear h hi48
  go_enter Tryd.func24, Tryd.ntmps24
  cases ao with
  | none =>
    have h0 : qs = [] := by
      rcases H.out with ⟨_, _, _, e⟩ | ⟨b, off, c, e, _⟩
      · exact e
      · injection e with e1; cases e1
    subst h0
    go_wp2_with fail
    go_ret
    exact ⟨_, rfl, World.ownsRow_nil _ _ _ _, Below.refl _ _⟩
  | some ad =>
    obtain ⟨b, off, sp⟩ := ad
    have hfl := SlAt.flat (f := Qu.cells) Qu.cells_len H.out
    have HFL := Lib.hid (show ∀ (j : Nat) (u : Value), (qs.flatMap Qu.cells)[j]? = some u → (w.alloc (.cells #[] 48)).cell? ((⟨b, off, sp⟩ : Addr).add j) = some u from fun j u hj => Lib.cell?_alloc_some _ (hfl j u hj))
    have HLEN : Hid ((qs.flatMap Qu.cells).length = qs.length * 3) := by
      unfold Hid
      rw [List.length_flatMap]
      have : (qs.map fun q => q.cells.length) = List.replicate qs.length 3 := by rw [List.eq_replicate_iff]; simp [Qu.cells]
      rw [this]; simp
    have HONE : Hid ((qs.flatMap Qu.cells).all (·.oneCell') = true) := by
      unfold Hid
      rw [List.all_eq_true]
      intro u hu
      obtain ⟨q, _, hq⟩ := List.mem_flatMap.1 hu
      simp only [Qu.cells, List.mem_cons, List.not_mem_nil, or_false] at hq
      rcases hq with rfl | rfl | rfl <;> rfl
    clear hfl
    go_wp2_with (at_builtin; refine wpList_append2 rfl _ _ 22 rfl w.heap.size 48 i48 (.agg #[.string ByteArray.empty, .int .i64 0, .int .i64 0]) 3 32 Tryd.underlying22 HI.out rfl (by decide) _ 0 [] rfl (World.ownsRow_made w #[] 0 (Nat.le_refl _) (Nat.zero_le _) rfl) ⟨b, off, sp⟩ qs.length cap (qs.flatMap Qu.cells) rfl HLEN.out HFL.out HONE.out (by unfold maxLen; omega) (by omega) (by simp) ?_)
    intro v' w3 hown hgrow hwh
    obtain ⟨ao', cap', rfl⟩ := ownsRow_form hown
    have HOWN := Lib.hid hown
    have HBG := Lib.hid (((Below.refl w.heap.size w).alloc (Nat.le_refl _) (.cells #[] 48)).grown hgrow (by simp) (by intro k hk; simp [Value.ownBlock] at hk; omega))
    clear hown hgrow hwh
    go_wp2_with fail
    go_ret
    exact ⟨_, rfl, by simpa [QuRow] using HOWN.out, HBG.out⟩

end Go.Proofs.YthnodeicbicjcaaDoor
