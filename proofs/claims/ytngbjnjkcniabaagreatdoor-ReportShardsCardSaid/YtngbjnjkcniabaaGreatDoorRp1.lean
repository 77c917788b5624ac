/- Lists of test results in memory; the laws' helper few. -/
import Derived.Test.YtngbjnjkcniabaaGreatDoorIdent4
namespace Go.Proofs.YtngbjnjkcniabaaGreatDoor
open Go.RowKit

/-- a slice of structs that can be read -/
def SlAt {α : Type} (sz : Nat) (f : α → List Value) (w : World) (v : Value) (xs : List α) : Prop :=
  (∃ ao cap, v = .slice ao 0 cap ∧ xs = []) ∨ ∃ b off cap, v = .slice (some ⟨b, off, none⟩) xs.length cap ∧ b < w.heap.size ∧ ∀ (k : Nat) (hk : k < xs.length) (j : Nat) (u : Value), (f xs[k])[j]? = some u → w.cell? ⟨b, off + k * sz + j, none⟩ = some u

theorem SlAt.below {α : Type} {sz : Nat} {f : α → List Value} {w w1 : World} {v : Value} {xs : List α} (h : SlAt sz f w v xs) (hb : Below w.heap.size w w1) : SlAt sz f w1 v xs := by
  rcases h with h | ⟨b, off, cap, h1, h2, h3⟩
  · exact .inl h
  · exact .inr ⟨b, off, cap, h1, Nat.lt_of_lt_of_le h2 hb.size, fun k hk j u hu => by rw [hb.cell (p := ⟨b, off + k * sz + j, none⟩) h2]; exact h3 k hk j u hu⟩

theorem SlAt.form {α : Type} {sz : Nat} {f : α → List Value} {w : World} {v : Value} {xs : List α} (h : SlAt sz f w v xs) : ∃ ao cap, v = .slice ao xs.length cap := by
  rcases h with ⟨ao, cap, rfl, rfl⟩ | ⟨b, off, cap, rfl, h2, h3⟩
  · exact ⟨_, _, rfl⟩
  · exact ⟨_, _, rfl⟩

theorem SlAt.at_ {α : Type} {sz : Nat} {f : α → List Value} {w : World} {ao : Option Addr} {n cap : Nat} {xs : List α} (h : SlAt sz f w (.slice ao n cap) xs) {k : Nat} (hk : k < xs.length) :
    ∃ b off, ao = some ⟨b, off, none⟩ ∧ b < w.heap.size ∧ ∀ (j : Nat) (u : Value), (f xs[k])[j]? = some u → w.cell? ⟨b, off + k * sz + j, none⟩ = some u := by
  rcases h with ⟨ao, cap, _, rfl⟩ | ⟨b, off, cap, e, h2, h3⟩
  · cases hk
  · injection e with e1 e2 e3
    exact ⟨b, off, e1, h2, h3 k hk⟩

theorem SlAt.of_row {α : Type} {sz : Nat} {f : α → List Value} {w : World} {base : Nat} {e : TypeId} {v : Value} {xs : List α} (h : w.ownsRow base e sz v xs.length (xs.flatMap f)) (hf : ∀ x, (f x).length = sz) (hsz : 0 < sz) : SlAt sz f w v xs := by
  by_cases h0 : xs.length = 0
  · obtain ⟨ao, cap, rfl⟩ := ownsRow_form h
    exact .inl ⟨ao, cap, by rw [h0], List.length_eq_zero_iff.1 h0⟩
  · obtain ⟨g, c, hv, hbg, hgw, _, hcs⟩ := ownsRow_at (f := f) h hf hsz (show 0 < xs.length by omega)
    refine .inr ⟨g, 0, c, hv, hgw, fun k hk j u hu => ?_⟩
    obtain ⟨g', c', hv', hbg', hgw', _, hcs'⟩ := ownsRow_at (f := f) h hf hsz hk
    rw [hv] at hv'
    injection hv' with e1 e2 e3
    injection e1 with e1
    injection e1 with e1
    subst e1
    rw [Nat.zero_add]
    exact hcs' j u hu

structure Qu where
  name : ByteArray
  since : Int
  til : Int
def Qu.cells (q : Qu) : List Value := [.string q.name, .int .i64 q.since, .int .i64 q.til]
theorem Qu.cells_len (q : Qu) : q.cells.length = 3 := rfl
abbrev Qu.val (q : Qu) : Value := .agg #[.string q.name, .int .i64 q.since, .int .i64 q.til]
abbrev QuAt := SlAt 3 Qu.cells

theorem QuAt.at3 {w : World} {ao : Option Addr} {n cap : Nat} {xs : List Qu} (h : QuAt w (.slice ao n cap) xs) {k : Nat} (hk : k < xs.length) :
    ∃ b off, ao = some ⟨b, off, none⟩ ∧ b < w.heap.size ∧ w.cell? ⟨b, off + k * 3, none⟩ = some (.string xs[k].name) ∧ w.cell? ⟨b, off + k * 3 + 1, none⟩ = some (.int .i64 xs[k].since) ∧ w.cell? ⟨b, off + k * 3 + 2, none⟩ = some (.int .i64 xs[k].til) := by
  obtain ⟨b, off, h1, h2, h3⟩ := SlAt.at_ h hk
  exact ⟨b, off, h1, h2, h3 0 _ rfl, h3 1 _ rfl, h3 2 _ rfl⟩

def fewTo (qs : List Qu) (k : Nat) : Bool := (qs.take k).all fun q => decide (q.name.size ≤ 1000)
theorem fewTo_succ {qs : List Qu} {k : Nat} (hk : k < qs.length) : fewTo qs (k + 1) = (fewTo qs k && decide (qs[k].name.size ≤ 1000)) := by
  unfold fewTo
  rw [List.take_add_one, List.all_append, List.getElem?_eq_getElem hk]
  simp
theorem fewTo_no {qs : List Qu} {k : Nat} (hk : k < qs.length) (h : ¬ qs[k].name.size ≤ 1000) : fewTo qs qs.length = false := by
  unfold fewTo
  rw [Bool.eq_false_iff]
  intro h2
  rw [List.take_length, List.all_eq_true] at h2
  exact h (by simpa using h2 _ (List.getElem_mem hk))
def fewF (qs : List Qu) : Bool := decide (qs.length ≤ 60) && fewTo qs qs.length

def FewRel (w1 : World) (qs : List Qu) (f : Nat) (t3 : Value) (wr : World) : Prop :=
  ∃ k : Nat, t3 = .int .i64 (k : Nat) ∧ k ≤ qs.length ∧ f = qs.length - k ∧ fewTo qs k = true ∧ wr = w1

set_option maxRecDepth 100000 in
set_option maxHeartbeats 800000 in
theorem few_any (v : Value) (qs : List Qu) (w : World) (h : QuAt w v qs) : Calls Tryz.prog 14 #[v] w fun e w' => e = .returned (.bool (fewF qs)) ∧ w' = w := by
  obtain ⟨ao, cap, rfl⟩ := h.form
  have H := Lib.hid h
  clear h
  go_enter Tryz.func14, Tryz.ntmps14
  by_cases hl : 60 < qs.length
  · have HF : Hid (fewF qs = false) := by unfold Hid fewF; simp; omega
    have hli : (60 : Int) < (qs.length : Int) := by omega
    go_wp2_with fail
    go_ret
    exact ⟨by rw [HF.out]; rfl, rfl⟩
  · have HF : Hid (fewF qs = fewTo qs qs.length) := by unfold Hid fewF; simp; omega
    go_wp2_with fail
    go_loopg [3] qs.length (FewRel w qs)
    case atStart => exact ⟨0, rfl, Nat.zero_le _, rfl, rfl, rfl⟩
    case round =>
      obtain ⟨k, rfl, hk, rfl, hall, rfl⟩ := hrel
      have HALL := Lib.hid hall
      clear hall
      by_cases hlt : k < qs.length
      · obtain ⟨b, off, rfl, hbl, c0, _, _⟩ := QuAt.at3 H.out hlt
        have hii : (k : Int) < (qs.length : Int) := by omega
        have HAS := Lib.hid (fewTo_succ hlt)
        have HAN := Lib.hid (fun h => fewTo_no (qs := qs) hlt h)
        generalize qs[k] = q at *
        by_cases hs : 1000 < q.name.size
        · have HA : Hid (fewTo qs qs.length = false) := HAN.out (by omega)
          have hsi : (1000 : Int) < (q.name.size : Int) := by omega
          go_wp2_with fail
          go_ret
          exact ⟨by rw [HF.out, HA.out]; rfl, rfl⟩
        · have HA : Hid (fewTo qs (k + 1) = true) := by unfold Hid; rw [HAS.out, HALL.out]; simp; omega
          go_wp2_with fail
          go_roundg (qs.length - (k + 1))
          case measure => omega
          case rel => exact ⟨k + 1, by go_num, by omega, rfl, HA.out, rfl⟩
      · have he : k = qs.length := by omega
        subst he
        go_wp2_with fail
        go_ret
        exact ⟨by rw [HF.out, HALL.out]; rfl, rfl⟩

theorem Tryz.info45 : (Tryz.prog.info? 41).map (fun i => (i.zero, i.size, i.bytes)) = some (some (.agg #[.string ByteArray.empty, .int .i64 0, .int .i64 0]), 3, 32) := by kernel_rfl
theorem Tryz.info45' : ∃ i, Tryz.prog.info? 41 = some i ∧ i.zero = some (.agg #[.string ByteArray.empty, .int .i64 0, .int .i64 0]) ∧ i.size = 3 ∧ i.bytes = 32 := info_parts Tryz.info45

def TrRow (w : World) (base : Nat) (v : Value) (qs : List Qu) : Prop := w.ownsRow base 41 3 v qs.length (qs.flatMap Qu.cells)
theorem TrRow.at {w : World} {base : Nat} {v : Value} {qs : List Qu} (h : TrRow w base v qs) : QuAt w v qs := SlAt.of_row h Qu.cells_len (by decide)
end Go.Proofs.YtngbjnjkcniabaaGreatDoor
