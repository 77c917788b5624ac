/- The walks over the searches in lists of quarantined tests. -/
import Derived.Test.YthnodeicbicjcaaDoorQua1
namespace Go.Proofs.YthnodeicbicjcaaDoor
open Go.RowKit

def sameN (a b : ByteArray) : Bool := a.toList == b.toList
theorem sameN_iff {a b : ByteArray} : sameN a b = true ↔ a = b := by
  unfold sameN
  rw [beq_iff_eq]
  constructor
  · intro h
    have h1 : a.data.toList = b.data.toList := by simpa [ByteArray.toList_eq] using h
    rw [← Lib.mk_data a, h1, Lib.mk_data]
  · rintro rfl; rfl

set_option maxRecDepth 100000 in
theorem add1_any (q : Qu) (name : ByteArray) (B : Nat) (w : World) (hB : B < w.heap.size) (hc : w.cell? ⟨B, 0, none⟩ = some (.string name)) :
    Calls Tryd.prog 28 #[q.val, .pointer (some ⟨B, 0, none⟩)] w fun e w' => e = .returned (.bool (sameN q.name name)) ∧ Below w.heap.size w w' := by
  have hne : B ≠ w.heap.size := by omega
  go_enter Tryd.func28, Tryd.ntmps28
  go_wp2_with fail
  go_ret
  exact ⟨rfl, (Below.refl _ _).alloc (Nat.le_refl _) _⟩

def actF (name : ByteArray) (now : Int) (q : Qu) : Bool := sameN q.name name && onF q now

set_option maxRecDepth 100000 in
theorem active1_any (q : Qu) (name : ByteArray) (now : Int) (B C : Nat) (w : World) (hB : B < w.heap.size) (hc : w.cell? ⟨B, 0, none⟩ = some (.string name)) (hC : C < w.heap.size) (hc2 : w.cell? ⟨C, 0, none⟩ = some (.int .i64 now)) :
    Calls Tryd.prog 33 #[q.val, .pointer (some ⟨B, 0, none⟩), .pointer (some ⟨C, 0, none⟩)] w fun e w' => e = .returned (.bool (actF name now q)) ∧ Below w.heap.size w w' := by
  have hne : B ≠ w.heap.size := by omega
  have hne2 : C ≠ w.heap.size := by omega
  have HA : Hid (actF name now q = (sameN q.name name && (decide (q.since ≤ now) && decide (now < q.til)))) := rfl
  go_enter Tryd.func33, Tryd.ntmps33
  cases h1 : sameN q.name name with
  | false =>
    have HA : Hid (actF name now q = false) := by unfold Hid; rw [HA.out, h1]; rfl
    have t1 : (q.name.toList == name.toList) = false := h1
    clear h1
    go_wp2_with fail
    go_ret
    exact ⟨by rw [HA.out]; rfl, (Below.refl _ _).alloc (Nat.le_refl _) _⟩
  | true =>
    have t1 : (q.name.toList == name.toList) = true := h1
    by_cases h2 : q.since ≤ now
    · have HA : Hid (actF name now q = decide (now < q.til)) := by unfold Hid; rw [HA.out, h1]; simp [h2]
      clear h1
      go_wp2_with fail
      go_ret
      exact ⟨by rw [HA.out]; rfl, (Below.refl _ _).alloc (Nat.le_refl _) _⟩
    · have HA : Hid (actF name now q = false) := by unfold Hid; rw [HA.out, h1]; simp [h2]
      have t2 : decide (q.since ≤ now) = false := by simp; omega
      clear h1 h2
      go_wp2_with fail
      go_ret
      exact ⟨by rw [HA.out]; rfl, (Below.refl _ _).alloc (Nat.le_refl _) _⟩

set_option maxRecDepth 100000 in
theorem expire1_any (q : Qu) (now : Int) (C : Nat) (w : World) (hC : C < w.heap.size) (hc2 : w.cell? ⟨C, 0, none⟩ = some (.int .i64 now)) :
    Calls Tryd.prog 35 #[q.val, .pointer (some ⟨C, 0, none⟩)] w fun e w' => e = .returned (.bool (decide (now < q.til))) ∧ Below w.heap.size w w' := by
  have hne2 : C ≠ w.heap.size := by omega
  go_enter Tryd.func35, Tryd.ntmps35
  go_wp2_with fail
  go_ret
  exact ⟨rfl, (Below.refl _ _).alloc (Nat.le_refl _) _⟩

/-- the first index at which p holds, or -1 -/
def firstF (p : Qu → Bool) : List Qu → Nat → Int
  | [], _ => -1
  | q :: qs, k => if p q then (k : Int) else firstF p qs (k + 1)

theorem firstF_take {p : Qu → Bool} : ∀ (qs : List Qu) (n k : Nat), (qs.take k).any p = false → firstF p qs n = firstF p (qs.drop k) (n + k)
  | _, n, 0, _ => by simp
  | [], n, k + 1, _ => by simp [firstF]
  | q :: qs, n, k + 1, h => by
    simp only [List.take_succ_cons, List.any_cons, Bool.or_eq_false_iff] at h
    rw [firstF, if_neg (by rw [h.1]; decide), firstF_take qs (n + 1) k h.2, List.drop_succ_cons]
    congr 1
    omega

theorem firstF_hit {p : Qu → Bool} {qs : List Qu} {k : Nat} (hk : k < qs.length) (h : (qs.take k).any p = false) (hp : p qs[k] = true) : firstF p qs 0 = k := by
  rw [firstF_take qs 0 k h, List.drop_eq_getElem_cons hk, firstF, if_pos hp, Nat.zero_add]

theorem firstF_none {p : Qu → Bool} {qs : List Qu} (h : qs.any p = false) : firstF p qs 0 = -1 := by
  rw [firstF_take qs 0 qs.length (by rw [List.take_length]; exact h), List.drop_length]
  rfl

theorem firstF_ge {p : Qu → Bool} : ∀ (qs : List Qu) (n : Nat), decide (0 ≤ firstF p qs n) = qs.any p
  | [], _ => rfl
  | q :: qs, n => by
    rw [firstF, List.any_cons]
    split
    · rename_i h; rw [h]; simp
    · rename_i h; rw [Bool.not_eq_true] at h; rw [h, firstF_ge qs (n + 1)]; rfl

theorem any_snoc {p : Qu → Bool} {qs : List Qu} {k : Nat} (hk : k < qs.length) (h : (qs.take k).any p = false) (hp : p qs[k] = false) : (qs.take (k + 1)).any p = false := by
  rw [List.take_add_one, List.any_append, h, List.getElem?_eq_getElem hk]
  simp [hp]

def IxRel (w1 : World) (p : Qu → Bool) (qs : List Qu) (f : Nat) (t8 : Value) (wr : World) : Prop :=
  ∃ k : Nat, t8 = .int .i64 (k : Nat) ∧ k ≤ qs.length ∧ f = qs.length - k ∧ (qs.take k).any p = false ∧ Below w1.heap.size w1 wr

set_option maxRecDepth 100000 in
set_option maxHeartbeats 800000 in
theorem indexFunc_any (g : Nat) (caps : Array Value) (p : Qu → Bool) (v : Value) (qs : List Qu) (hn : qs.length ≤ 1000000) (w : World) (h : QuAt w v qs)
    (hg : ∀ (q : Qu) (W : World), Below w.heap.size w W → Calls Tryd.prog g (#[q.val] ++ caps) W fun e w' => e = .returned (.bool (p q)) ∧ Below W.heap.size W w')
    (eg : ∀ args w, (callFunc g args).run Tryd.prog w = .ok (.enter g args) w) :
    Calls Tryd.prog 27 #[v, .func (.func g) #[] caps] w fun e w' => e = .returned (.int .i64 (firstF p qs 0)) ∧ Below w.heap.size w w' := by
  obtain ⟨ao, cap, rfl⟩ := h.form
  have H := Lib.hid h
  have HG := Lib.hid hg
  clear h hg
  go_enter Tryd.func27, Tryd.ntmps27
  go_wp2_with fail
  go_loopg [8] qs.length (IxRel w p qs)
  case atStart => exact ⟨0, rfl, Nat.zero_le _, rfl, rfl, Below.refl _ _⟩
  case round =>
    obtain ⟨k, rfl, hk, rfl, hno, hbel⟩ := hrel
    have HNO := Lib.hid hno
    have HB := Lib.hid hbel
    clear hno hbel
    by_cases hlt : k < qs.length
    · obtain ⟨b, off, rfl, hbl, c0, c1, c2⟩ := QuAt.at3 (SlAt.below H.out HB.out) hlt
      have hii : (k : Int) < (qs.length : Int) := by omega
      have HHIT := Lib.hid (fun h => firstF_hit (p := p) hlt HNO.out h)
      have HSN := Lib.hid (fun h => any_snoc (p := p) hlt HNO.out h)
      generalize qs[k] = q at *
      go_wp2_with fail
      refine (HG.out q wr HB.out).mono ?_
      rintro e w1 ⟨rfl, hb⟩
      have HB1 := Lib.hid (HB.out.trans (hb.mono HB.out.size))
      clear hb
      cases hp : p q with
      | true =>
        have HF := Lib.hid (HHIT.out hp)
        clear hp
        go_wp2_with fail
        go_ret
        exact ⟨by rw [HF.out]; rfl, HB1.out⟩
      | false =>
        have HF := Lib.hid (HSN.out hp)
        clear hp
        go_wp2_with fail
        go_roundg (qs.length - (k + 1))
        case measure => omega
        case rel => exact ⟨k + 1, by go_num, by omega, rfl, HF.out, HB1.out⟩
    · have HF : Hid (firstF p qs 0 = -1) := firstF_none (by have := HNO.out; rwa [List.take_of_length_le (by omega)] at this)
      go_wp2_with fail
      go_ret
      exact ⟨by rw [HF.out]; rfl, HB.out⟩

set_option maxRecDepth 100000 in
set_option maxHeartbeats 800000 in
theorem containsFunc_any (g : Nat) (caps : Array Value) (p : Qu → Bool) (v : Value) (qs : List Qu) (hn : qs.length ≤ 1000000) (w : World) (h : QuAt w v qs)
    (hg : ∀ (q : Qu) (W : World), Below w.heap.size w W → Calls Tryd.prog g (#[q.val] ++ caps) W fun e w' => e = .returned (.bool (p q)) ∧ Below W.heap.size W w')
    (eg : ∀ args w, (callFunc g args).run Tryd.prog w = .ok (.enter g args) w) :
    Calls Tryd.prog 32 #[v, .func (.func g) #[] caps] w fun e w' => e = .returned (.bool (qs.any p)) ∧ Below w.heap.size w w' := by
  have H := Lib.hid h
  have HG := Lib.hid hg
  have HGE := Lib.hid (firstF_ge (p := p) qs 0)
  clear h hg
  go_enter Tryd.func32, Tryd.ntmps32
  go_wp2_with fail
  refine (indexFunc_any g caps p v qs hn w H.out HG.out eg).mono ?_
  rintro e w1 ⟨rfl, hb⟩
  have HB := Lib.hid hb
  clear hb
  go_wp2_with fail
  go_ret
  exact ⟨by rw [← HGE.out]; rfl, HB.out⟩

set_option maxRecDepth 100000 in
set_option maxHeartbeats 800000 in
theorem active_any (v : Value) (qs : List Qu) (hn : qs.length ≤ 1000000) (name : ByteArray) (now : Int) (w : World) (h : QuAt w v qs) :
    Calls Tryd.prog 14 #[v, .string name, .int .i64 now] w fun e w' => e = .returned (.bool (qs.any (actF name now))) ∧ Below w.heap.size w w' := by
  have H := Lib.hid h
  clear h
  go_enter Tryd.func14, Tryd.ntmps14
  have eg : ∀ args w, (callFunc 33 args).run Tryd.prog w = .ok (.enter 33 args) w := enters_of Tryd.func33 (by kernel_rfl) rfl
  have hb2 : Below w.heap.size w ((w.alloc (.cells #[.string name] 9)).alloc (.cells #[.int .i64 now] 3)) := ((Below.refl _ _).alloc (Nat.le_refl _) _).alloc (by simp) _
  have k1 : ((w.alloc (.cells #[.string name] 9)).alloc (.cells #[.int .i64 now] 3)).cell? ⟨w.heap.size, 0, none⟩ = some (.string name) := by
    rw [cell_of_blk ((hp_old (by simp)).trans (hp_new rfl))]; rfl
  have k2 : ((w.alloc (.cells #[.string name] 9)).alloc (.cells #[.int .i64 now] 3)).cell? ⟨w.heap.size + 1, 0, none⟩ = some (.int .i64 now) := by
    rw [cell_of_blk (hp_new (by simp))]; rfl
  have ks : ((w.alloc (.cells #[.string name] 9)).alloc (.cells #[.int .i64 now] 3)).heap.size = w.heap.size + 2 := by simp
  have HB2 := Lib.hid hb2
  have HK1 := Lib.hid k1
  have HK2 := Lib.hid k2
  have HKS := Lib.hid ks
  clear hb2 k1 k2 ks
  go_wp2_with fail
  generalize (w.alloc (.cells #[.string name] 9)).alloc (.cells #[.int .i64 now] 3) = w2 at *
  refine (containsFunc_any 33 _ (actF name now) v qs hn w2 (SlAt.below H.out HB2.out) (fun q W hW => ?_) eg).mono ?_
  · have h1 := HKS.out
    have h2 := hW.size
    exact active1_any q name now _ _ W (by omega) ((hW.cell (p := ⟨w.heap.size, 0, none⟩) (by show w.heap.size < _; omega)).trans HK1.out) (by omega) ((hW.cell (p := ⟨w.heap.size + 1, 0, none⟩) (by show w.heap.size + 1 < _; omega)).trans HK2.out)
  · rintro e w3 ⟨rfl, hb⟩
    have HB3 := Lib.hid (HB2.out.trans (hb.mono HB2.out.size))
    clear hb
    go_wp2_with fail
    go_ret
    exact ⟨rfl, HB3.out⟩

set_option maxRecDepth 100000 in
set_option maxHeartbeats 800000 in
theorem rindex_any (v : Value) (qs : List Qu) (hn : qs.length ≤ 1000000) (name : ByteArray) (w : World) (h : QuAt w v qs) :
    Calls Tryd.prog 30 #[v, .string name] w fun e w' => e = .returned (.int .i64 (firstF (fun q => sameN q.name name) qs 0)) ∧ Below w.heap.size w w' := by
  obtain ⟨ao, cap, rfl⟩ := h.form
  have H := Lib.hid h
  clear h
  go_enter Tryd.func30, Tryd.ntmps30
  go_wp2_with fail
  go_loopg [5] qs.length (IxRel w (fun q => sameN q.name name) qs)
  case atStart => exact ⟨0, rfl, Nat.zero_le _, rfl, rfl, Below.refl _ _⟩
  case round =>
    obtain ⟨k, rfl, hk, rfl, hno, hbel⟩ := hrel
    have HNO := Lib.hid hno
    have HB := Lib.hid hbel
    clear hno hbel
    by_cases hlt : k < qs.length
    · obtain ⟨b, off, rfl, hbl, c0, c1, c2⟩ := QuAt.at3 (SlAt.below H.out HB.out) hlt
      have hii : (k : Int) < (qs.length : Int) := by omega
      have HHIT := Lib.hid (fun h => firstF_hit (p := fun q => sameN q.name name) hlt HNO.out h)
      have HSN := Lib.hid (fun h => any_snoc (p := fun q => sameN q.name name) hlt HNO.out h)
      generalize qs[k] = q at *
      cases hp : sameN q.name name with
      | true =>
        have t1 : (q.name.toList == name.toList) = true := hp
        have HF := Lib.hid (HHIT.out hp)
        clear hp
        go_wp2_with fail
        go_ret
        exact ⟨by rw [HF.out]; rfl, HB.out⟩
      | false =>
        have t1 : (q.name.toList == name.toList) = false := hp
        have HF := Lib.hid (HSN.out hp)
        clear hp
        go_wp2_with fail
        go_roundg (qs.length - (k + 1))
        case measure => omega
        case rel => exact ⟨k + 1, by go_num, by omega, rfl, HF.out, HB.out⟩
    · have HF : Hid (firstF (fun q => sameN q.name name) qs 0 = -1) := firstF_none (by have := HNO.out; rwa [List.take_of_length_le (by omega)] at this)
      go_wp2_with fail
      go_ret
      exact ⟨by rw [HF.out]; rfl, HB.out⟩

theorem any_hit {p : Qu → Bool} {qs : List Qu} {k : Nat} (hk : k < qs.length) (hp : p qs[k] = true) : qs.any p = true := by
  rw [List.any_eq_true]; exact ⟨_, List.getElem_mem hk, hp⟩

set_option maxRecDepth 100000 in
set_option maxHeartbeats 800000 in
theorem ractive_any (v : Value) (qs : List Qu) (hn : qs.length ≤ 1000000) (name : ByteArray) (now : Int) (w : World) (h : QuAt w v qs) :
    Calls Tryd.prog 15 #[v, .string name, .int .i64 now] w fun e w' => e = .returned (.bool (qs.any (actF name now))) ∧ Below w.heap.size w w' := by
  obtain ⟨ao, cap, rfl⟩ := h.form
  have H := Lib.hid h
  clear h
  go_enter Tryd.func15, Tryd.ntmps15
  go_wp2_with fail
  go_loopg [7] qs.length (IxRel w (actF name now) qs)
  case atStart => exact ⟨0, rfl, Nat.zero_le _, rfl, rfl, Below.refl _ _⟩
  case round =>
    obtain ⟨k, rfl, hk, rfl, hno, hbel⟩ := hrel
    have HNO := Lib.hid hno
    have HB := Lib.hid hbel
    clear hno hbel
    by_cases hlt : k < qs.length
    · obtain ⟨b, off, rfl, hbl, c0, c1, c2⟩ := QuAt.at3 (SlAt.below H.out HB.out) hlt
      have hii : (k : Int) < (qs.length : Int) := by omega
      have HHIT := Lib.hid (fun h => any_hit (p := actF name now) hlt h)
      have HSN := Lib.hid (fun h => any_snoc (p := actF name now) hlt HNO.out h)
      generalize qs[k] = q at *
      cases hp : sameN q.name name with
      | true =>
        have t1 : (q.name.toList == name.toList) = true := hp
        have HA : Hid (actF name now q = onF q now) := by unfold Hid actF; rw [hp]; rfl
        clear hp
        go_wp2_with fail
        refine (on_any q now _).mono ?_
        rintro e w1 ⟨rfl, hb⟩
        have HB1 := Lib.hid (HB.out.trans (hb.mono HB.out.size))
        clear hb
        cases ho : onF q now with
        | true =>
          have HF := Lib.hid (HHIT.out (HA.out.trans ho))
          clear ho
          go_wp2_with fail
          go_ret
          exact ⟨by rw [HF.out]; rfl, HB1.out⟩
        | false =>
          have HF := Lib.hid (HSN.out (HA.out.trans ho))
          clear ho
          go_wp2_with fail
          go_roundg (qs.length - (k + 1))
          case measure => omega
          case rel => exact ⟨k + 1, by go_num, by omega, rfl, HF.out, HB1.out⟩
      | false =>
        have t1 : (q.name.toList == name.toList) = false := hp
        have HF := Lib.hid (HSN.out (by unfold actF; rw [hp]; rfl))
        clear hp
        go_wp2_with fail
        go_roundg (qs.length - (k + 1))
        case measure => omega
        case rel => exact ⟨k + 1, by go_num, by omega, rfl, HF.out, HB.out⟩
    · have HF : Hid (qs.any (actF name now) = false) := by have := HNO.out; rwa [List.take_of_length_le (by omega)] at this
      go_wp2_with fail
      go_ret
      exact ⟨by rw [HF.out]; rfl, HB.out⟩
end Go.Proofs.YthnodeicbicjcaaDoor
