/- The walks over slices.IndexFunc and ContainsFunc at values, axes and lists of variables. -/
import Derived.Test.YtomecnncighkgaaGreatDoorVa5
namespace Go.Proofs.YtomecnncighkgaaGreatDoor
open Go.RowKit Go.Deep

def TvRel (p : VT → Bool) (L : List (VT)) (w1 : World) (f : Nat) (t8 : Value) (wr : World) : Prop :=
  ∃ i : Nat, t8 = .int .i64 (i : Nat) ∧ i ≤ L.length ∧ f = L.length - i ∧ fstI p L = (fstI p (L.drop i)).map (· + i) ∧ Below w1.heap.size w1 wr

set_option maxRecDepth 100000 in
set_option maxHeartbeats 1600000 in
theorem tindexf_any (g : Nat) (caps : Array Value) (p : VT → Bool) (L : List VT) (v : Value) (B : Nat → Prop) (hl : L.length ≤ 9223372036854775807) (w : World) (h : EVal.Row B w L v)
    (hg : ∀ (k : Nat) (hk : k < L.length) (cs : List Value) (W : World), Below w.heap.size w W → EVal.R B W L[k] cs → Calls Tryz.prog g (#[.agg cs.toArray] ++ caps) W fun e w' => e = .returned (.bool (p L[k])) ∧ Below W.heap.size W w')
    (eg : ∀ args w, (callFunc g args).run Tryz.prog w = .ok (.enter g args) w) :
    Calls Tryz.prog 88 #[v, .func (.func g) #[] caps] w fun e w' => e = .returned (.int .i64 (idxI (fstI p L))) ∧ Below w.heap.size w w' := by
  obtain ⟨ao, cap, rfl⟩ := h.form
  have H := Lib.hid h
  have HG := Lib.hid hg
  clear h hg
  go_enter Tryz.func88, Tryz.ntmps88
  go_wp2_with fail
  go_loopg [8] L.length (TvRel p L w)
  case atStart => exact ⟨0, rfl, Nat.zero_le _, rfl, by simp, Below.refl _ _⟩
  case round =>
    obtain ⟨i, rfl, hi, rfl, hk, hbel⟩ := hrel
    have HK := Lib.hid hk
    have HB := Lib.hid hbel
    clear hk hbel
    by_cases hlt : i < L.length
    · obtain ⟨bl, off, ce, rfl, _, _, hce, hvc⟩ := (H.out.below HB.out).at hlt
      have hii : (i : Int) < (L.length : Int) := by omega
      have CG := Lib.hid (HG.out i hlt ce wr HB.out hvc)
      obtain ⟨lo, lc, ko, kc, rfl⟩ := vcellB_slices hvc
      have e0 : wr.cell? ⟨bl, off + i * 6 + 0, none⟩ = _ := hce 0 _ rfl
      have e1 : wr.cell? ⟨bl, off + i * 6 + 1, none⟩ = _ := hce 1 _ rfl
      have e2 : wr.cell? ⟨bl, off + i * 6 + 2, none⟩ = _ := hce 2 _ rfl
      have e3 : wr.cell? ⟨bl, off + i * 6 + 3, none⟩ = _ := hce 3 _ rfl
      have e4 : wr.cell? ⟨bl, off + i * 6 + 4, none⟩ = _ := hce 4 _ rfl
      have e5 : wr.cell? ⟨bl, off + i * 6 + 5, none⟩ = _ := hce 5 _ rfl
      rw [Nat.add_zero] at e0
      have HS := Lib.hid (fstI_step hlt HK.out)
      clear hce hvc
      generalize L[i] = x at *
      as_aux_lemma =>
      go_wp2_with fail
      refine CG.out.mono ?_
      rintro e w5 ⟨rfl, hb⟩
      have HB5 := Lib.hid (HB.out.trans (hb.mono HB.out.size))
      clear hb CG
      cases hp : p x with
      | true =>
        have HN := Lib.hid (HS.out.1 hp)
        clear hp HS HK
        go_wp2_with fail
        go_ret
        exact ⟨by rw [HN.out] <;> rfl, HB5.out⟩
      | false =>
        have HN := Lib.hid (HS.out.2 hp)
        clear hp HS HK
        go_wp2_with fail
        go_roundg (L.length - (i + 1))
        case measure => omega
        case rel => exact ⟨i + 1, by go_num, by omega, rfl, HN.out, HB5.out⟩
    · have hii : ¬ (i : Int) < (L.length : Int) := by omega
      have he : i = L.length := by omega
      have HN : Hid (fstI p L = none) := by unfold Hid; rw [HK.out, he, List.drop_length]; rfl
      clear HK he
      go_wp2_with fail
      go_ret
      exact ⟨by rw [HN.out] <;> rfl, HB.out⟩
set_option maxRecDepth 100000 in
theorem tcontf_any (g : Nat) (caps : Array Value) (p : VT → Bool) (L : List VT) (v : Value) (B : Nat → Prop) (hl : L.length ≤ 9223372036854775807) (w : World) (h : EVal.Row B w L v)
    (hg : ∀ (k : Nat) (hk : k < L.length) (cs : List Value) (W : World), Below w.heap.size w W → EVal.R B W L[k] cs → Calls Tryz.prog g (#[.agg cs.toArray] ++ caps) W fun e w' => e = .returned (.bool (p L[k])) ∧ Below W.heap.size W w')
    (eg : ∀ args w, (callFunc g args).run Tryz.prog w = .ok (.enter g args) w) :
    Calls Tryz.prog 66 #[v, .func (.func g) #[] caps] w fun e w' => e = .returned (.bool (L.any p)) ∧ Below w.heap.size w w' := by
  have IX := Lib.hid (tindexf_any g caps p L v B hl w h hg eg)
  have HA : Hid (decide (0 ≤ idxI (fstI p L)) = L.any p) := by unfold Hid; rw [idxI_ge, fstI_some]
  obtain ⟨ao, cap, rfl⟩ := h.form
  clear h hg
  generalize idxI (fstI p L) = q at *
  go_enter Tryz.func66, Tryz.ntmps66
  go_wp2_with fail
  refine IX.out.mono ?_
  rintro e w5 ⟨rfl, hb⟩
  go_wp2_with fail
  go_ret
  exact ⟨by rw [← HA.out] <;> rfl, hb⟩

def AvRel (p : AX → Bool) (L : List (AX)) (w1 : World) (f : Nat) (t8 : Value) (wr : World) : Prop :=
  ∃ i : Nat, t8 = .int .i64 (i : Nat) ∧ i ≤ L.length ∧ f = L.length - i ∧ fstI p L = (fstI p (L.drop i)).map (· + i) ∧ Below w1.heap.size w1 wr

set_option maxRecDepth 100000 in
set_option maxHeartbeats 1600000 in
theorem aindexf_any (g : Nat) (caps : Array Value) (p : AX → Bool) (L : List AX) (v : Value) (B : Nat → Prop) (hl : L.length ≤ 9223372036854775807) (w : World) (h : EAx.Row B w L v)
    (hg : ∀ (k : Nat) (hk : k < L.length) (cs : List Value) (W : World), Below w.heap.size w W → EAx.R B W L[k] cs → Calls Tryz.prog g (#[.agg cs.toArray] ++ caps) W fun e w' => e = .returned (.bool (p L[k])) ∧ Below W.heap.size W w')
    (eg : ∀ args w, (callFunc g args).run Tryz.prog w = .ok (.enter g args) w) :
    Calls Tryz.prog 64 #[v, .func (.func g) #[] caps] w fun e w' => e = .returned (.int .i64 (idxI (fstI p L))) ∧ Below w.heap.size w w' := by
  obtain ⟨ao, cap, rfl⟩ := h.form
  have H := Lib.hid h
  have HG := Lib.hid hg
  clear h hg
  go_enter Tryz.func64, Tryz.ntmps64
  go_wp2_with fail
  go_loopg [8] L.length (AvRel p L w)
  case atStart => exact ⟨0, rfl, Nat.zero_le _, rfl, by simp, Below.refl _ _⟩
  case round =>
    obtain ⟨i, rfl, hi, rfl, hk, hbel⟩ := hrel
    have HK := Lib.hid hk
    have HB := Lib.hid hbel
    clear hk hbel
    by_cases hlt : i < L.length
    · obtain ⟨bl, off, ce, rfl, _, _, hce, hvc⟩ := (H.out.below HB.out).at hlt
      have hii : (i : Int) < (L.length : Int) := by omega
      have CG := Lib.hid (HG.out i hlt ce wr HB.out hvc)
      obtain ⟨lo, lc, rfl, _⟩ := eax_two hvc
      have e0 : wr.cell? ⟨bl, off + i * 2 + 0, none⟩ = _ := hce 0 _ rfl
      have e1 : wr.cell? ⟨bl, off + i * 2 + 1, none⟩ = _ := hce 1 _ rfl
      rw [Nat.add_zero] at e0
      have HS := Lib.hid (fstI_step hlt HK.out)
      clear hce hvc
      generalize L[i] = x at *
      as_aux_lemma =>
      go_wp2_with fail
      refine CG.out.mono ?_
      rintro e w5 ⟨rfl, hb⟩
      have HB5 := Lib.hid (HB.out.trans (hb.mono HB.out.size))
      clear hb CG
      cases hp : p x with
      | true =>
        have HN := Lib.hid (HS.out.1 hp)
        clear hp HS HK
        go_wp2_with fail
        go_ret
        exact ⟨by rw [HN.out] <;> rfl, HB5.out⟩
      | false =>
        have HN := Lib.hid (HS.out.2 hp)
        clear hp HS HK
        go_wp2_with fail
        go_roundg (L.length - (i + 1))
        case measure => omega
        case rel => exact ⟨i + 1, by go_num, by omega, rfl, HN.out, HB5.out⟩
    · have hii : ¬ (i : Int) < (L.length : Int) := by omega
      have he : i = L.length := by omega
      have HN : Hid (fstI p L = none) := by unfold Hid; rw [HK.out, he, List.drop_length]; rfl
      clear HK he
      go_wp2_with fail
      go_ret
      exact ⟨by rw [HN.out] <;> rfl, HB.out⟩
set_option maxRecDepth 100000 in
theorem acontf_any (g : Nat) (caps : Array Value) (p : AX → Bool) (L : List AX) (v : Value) (B : Nat → Prop) (hl : L.length ≤ 9223372036854775807) (w : World) (h : EAx.Row B w L v)
    (hg : ∀ (k : Nat) (hk : k < L.length) (cs : List Value) (W : World), Below w.heap.size w W → EAx.R B W L[k] cs → Calls Tryz.prog g (#[.agg cs.toArray] ++ caps) W fun e w' => e = .returned (.bool (p L[k])) ∧ Below W.heap.size W w')
    (eg : ∀ args w, (callFunc g args).run Tryz.prog w = .ok (.enter g args) w) :
    Calls Tryz.prog 36 #[v, .func (.func g) #[] caps] w fun e w' => e = .returned (.bool (L.any p)) ∧ Below w.heap.size w w' := by
  have IX := Lib.hid (aindexf_any g caps p L v B hl w h hg eg)
  have HA : Hid (decide (0 ≤ idxI (fstI p L)) = L.any p) := by unfold Hid; rw [idxI_ge, fstI_some]
  obtain ⟨ao, cap, rfl⟩ := h.form
  clear h hg
  generalize idxI (fstI p L) = q at *
  go_enter Tryz.func36, Tryz.ntmps36
  go_wp2_with fail
  refine IX.out.mono ?_
  rintro e w5 ⟨rfl, hb⟩
  go_wp2_with fail
  go_ret
  exact ⟨by rw [← HA.out] <;> rfl, hb⟩

def LvRel (p : List VR → Bool) (L : List (List VR)) (w1 : World) (f : Nat) (t8 : Value) (wr : World) : Prop :=
  ∃ i : Nat, t8 = .int .i64 (i : Nat) ∧ i ≤ L.length ∧ f = L.length - i ∧ fstI p L = (fstI p (L.drop i)).map (· + i) ∧ Below w1.heap.size w1 wr

set_option maxRecDepth 100000 in
set_option maxHeartbeats 1600000 in
theorem lindexf_any (g : Nat) (caps : Array Value) (p : List VR → Bool) (L : List (List VR)) (v : Value) (B : Nat → Prop) (hl : L.length ≤ 9223372036854775807) (w : World) (h : EVars.Row B w L v)
    (hg : ∀ (k : Nat) (hk : k < L.length) (u : Value) (W : World), Below w.heap.size w W → EVar.Row B W L[k] u → Calls Tryz.prog g (#[u] ++ caps) W fun e w' => e = .returned (.bool (p L[k])) ∧ Below W.heap.size W w')
    (eg : ∀ args w, (callFunc g args).run Tryz.prog w = .ok (.enter g args) w) :
    Calls Tryz.prog 58 #[v, .func (.func g) #[] caps] w fun e w' => e = .returned (.int .i64 (idxI (fstI p L))) ∧ Below w.heap.size w w' := by
  obtain ⟨ao, cap, rfl⟩ := h.form
  have H := Lib.hid h
  have HG := Lib.hid hg
  clear h hg
  go_enter Tryz.func58, Tryz.ntmps58
  go_wp2_with fail
  go_loopg [8] L.length (LvRel p L w)
  case atStart => exact ⟨0, rfl, Nat.zero_le _, rfl, by simp, Below.refl _ _⟩
  case round =>
    obtain ⟨i, rfl, hi, rfl, hk, hbel⟩ := hrel
    have HK := Lib.hid hk
    have HB := Lib.hid hbel
    clear hk hbel
    by_cases hlt : i < L.length
    · obtain ⟨bl, off, ce, rfl, _, _, hce, hvc⟩ := (H.out.below HB.out).at hlt
      have hii : (i : Int) < (L.length : Int) := by omega
      obtain ⟨lo, lc, rfl, hvr⟩ := evars_one hvc
      have CG := Lib.hid (HG.out i hlt _ wr HB.out hvr)
      have e0 : wr.cell? ⟨bl, off + i * 1 + 0, none⟩ = _ := hce 0 _ rfl
      rw [Nat.add_zero, Nat.mul_one] at e0
      have HS := Lib.hid (fstI_step hlt HK.out)
      clear hce hvc hvr
      generalize L[i] = x at *
      as_aux_lemma =>
      go_wp2_with fail
      refine CG.out.mono ?_
      rintro e w5 ⟨rfl, hb⟩
      have HB5 := Lib.hid (HB.out.trans (hb.mono HB.out.size))
      clear hb CG
      cases hp : p x with
      | true =>
        have HN := Lib.hid (HS.out.1 hp)
        clear hp HS HK
        go_wp2_with fail
        go_ret
        exact ⟨by rw [HN.out] <;> rfl, HB5.out⟩
      | false =>
        have HN := Lib.hid (HS.out.2 hp)
        clear hp HS HK
        go_wp2_with fail
        go_roundg (L.length - (i + 1))
        case measure => omega
        case rel => exact ⟨i + 1, by go_num, by omega, rfl, HN.out, HB5.out⟩
    · have hii : ¬ (i : Int) < (L.length : Int) := by omega
      have he : i = L.length := by omega
      have HN : Hid (fstI p L = none) := by unfold Hid; rw [HK.out, he, List.drop_length]; rfl
      clear HK he
      go_wp2_with fail
      go_ret
      exact ⟨by rw [HN.out] <;> rfl, HB.out⟩
set_option maxRecDepth 100000 in
theorem lcontf_any (g : Nat) (caps : Array Value) (p : List VR → Bool) (L : List (List VR)) (v : Value) (B : Nat → Prop) (hl : L.length ≤ 9223372036854775807) (w : World) (h : EVars.Row B w L v)
    (hg : ∀ (k : Nat) (hk : k < L.length) (u : Value) (W : World), Below w.heap.size w W → EVar.Row B W L[k] u → Calls Tryz.prog g (#[u] ++ caps) W fun e w' => e = .returned (.bool (p L[k])) ∧ Below W.heap.size W w')
    (eg : ∀ args w, (callFunc g args).run Tryz.prog w = .ok (.enter g args) w) :
    Calls Tryz.prog 26 #[v, .func (.func g) #[] caps] w fun e w' => e = .returned (.bool (L.any p)) ∧ Below w.heap.size w w' := by
  have IX := Lib.hid (lindexf_any g caps p L v B hl w h hg eg)
  have HA : Hid (decide (0 ≤ idxI (fstI p L)) = L.any p) := by unfold Hid; rw [idxI_ge, fstI_some]
  obtain ⟨ao, cap, rfl⟩ := h.form
  clear h hg
  generalize idxI (fstI p L) = q at *
  go_enter Tryz.func26, Tryz.ntmps26
  go_wp2_with fail
  refine IX.out.mono ?_
  rintro e w5 ⟨rfl, hb⟩
  go_wp2_with fail
  go_ret
  exact ⟨by rw [← HA.out] <;> rfl, hb⟩

end Go.Proofs.YtomecnncighkgaaGreatDoor
