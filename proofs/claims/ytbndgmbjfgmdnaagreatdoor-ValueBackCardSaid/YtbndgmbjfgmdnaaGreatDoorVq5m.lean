/- The walks over slices.IndexFunc and ContainsFunc at variables, over value.entry. -/
import Derived.Test.YtbndgmbjfgmdnaaGreatDoorVq3
import Derived.Test.YtbndgmbjfgmdnaaGreatDoorVq4
namespace Go.Proofs.YtbndgmbjfgmdnaaGreatDoor
open Go.RowKit Go.Deep

theorem evar_seven {B : Nat → Prop} {w : World} {x : VR} {cs : List Value} (h : EVar.R B w x cs) : ∃ lo lc ko kc, cs = [.string x.1, .int .i64 x.2.kind, .bool x.2.bool, .int .i64 x.2.int, .string x.2.str, .slice lo x.2.list.length lc, .slice ko x.2.keys.length kc] ∧
    VAtB B w (.agg #[.int .i64 x.2.kind, .bool x.2.bool, .int .i64 x.2.int, .string x.2.str, .slice lo x.2.list.length lc, .slice ko x.2.keys.length kc]) x.2 := by
  obtain ⟨c2, rfl, h2⟩ := evar_cells h
  obtain ⟨lo, lc, ko, kc, rfl⟩ := vcellB_slices h2
  exact ⟨lo, lc, ko, kc, rfl, ⟨_, rfl, h2⟩⟩
/-- the first that p holds of -/
def fstI {α : Type} (p : α → Bool) : List α → Option Nat
  | [] => none
  | x :: l => if p x = true then some 0 else (fstI p l).map (· + 1)
theorem fstI_step {α : Type} {p : α → Bool} {L : List α} {i : Nat} (h : i < L.length) (hk : fstI p L = (fstI p (L.drop i)).map (· + i)) :
    (p L[i] = true → fstI p L = some i) ∧ (p L[i] = false → fstI p L = (fstI p (L.drop (i + 1))).map (· + (i + 1))) := by
  rw [List.drop_eq_getElem_cons h, fstI] at hk
  refine ⟨fun e => ?_, fun e => ?_⟩
  · rw [if_pos e] at hk
    rw [hk]; simp
  · rw [if_neg (by rw [e]; simp)] at hk
    rw [hk, Option.map_map]
    congr 1
    funext x
    show x + 1 + i = x + (i + 1)
    omega
theorem fstI_some {α : Type} {p : α → Bool} : ∀ {L : List α}, (fstI p L).isSome = L.any p
  | [] => rfl
  | x :: l => by
    rw [fstI, List.any_cons]
    cases hx : p x with
    | true => rfl
    | false =>
      rw [if_neg (by simp), Option.isSome_map, fstI_some, Bool.false_or]
theorem idxI_ge (o : Option Nat) : decide (0 ≤ idxI o) = o.isSome := by
  cases o with
  | none => rfl
  | some i => show decide ((0 : Int) ≤ ((i : Nat) : Int)) = true; exact decide_eq_true (by omega)
theorem ElemK.Row.take {α : Type} {E : ElemK α} {B : Nat → Prop} {w : World} {L : List α} {ao : Option Addr} {n cap c2 : Nat} (h : E.Row B w L (.slice ao n cap)) {i : Nat} (hi : i ≤ L.length) (hc : i ≤ c2) : E.Row B w (L.take i) (.slice ao i c2) := by
  have hl : (L.take i).length = i := by rw [List.length_take]; omega
  by_cases h0 : i = 0
  · subst h0; exact .inl ⟨ao, c2, rfl, by simp⟩
  rcases h with ⟨_, _, _, rfl⟩ | ⟨bl, off, c, e, h2, h3, h4, h5⟩
  · simp at hi; exact absurd hi h0
  · injection e with e1 e2 e3
    refine .inr ⟨bl, off, c2, by rw [hl, e1], h2, h3, by rw [hl]; exact hc, fun k hk => ?_⟩
    rw [hl] at hk
    obtain ⟨cs, q1, q2⟩ := h5 k (by omega)
    refine ⟨cs, q1, ?_⟩
    rw [List.getElem_take]
    exact q2
def IvRel (p : VR → Bool) (L : List VR) (w1 : World) (f : Nat) (t8 : Value) (wr : World) : Prop :=
  ∃ i : Nat, t8 = .int .i64 (i : Nat) ∧ i ≤ L.length ∧ f = L.length - i ∧ fstI p L = (fstI p (L.drop i)).map (· + i) ∧ Below w1.heap.size w1 wr

set_option maxRecDepth 100000 in
set_option maxHeartbeats 1600000 in
theorem vindexf_any (g : Nat) (caps : Array Value) (p : VR → Bool) (L : List VR) (v : Value) (B : Nat → Prop) (hl : L.length ≤ 9223372036854775807) (w : World) (h : EVar.Row B w L v)
    (hg : ∀ (k : Nat) (hk : k < L.length) (cs : List Value) (W : World), Below w.heap.size w W → EVar.R B W L[k] cs → Calls Tryz.prog g (#[.agg cs.toArray] ++ caps) W fun e w' => e = .returned (.bool (p L[k])) ∧ Below W.heap.size W w')
    (eg : ∀ args w, (callFunc g args).run Tryz.prog w = .ok (.enter g args) w) :
    Calls Tryz.prog 92 #[v, .func (.func g) #[] caps] w fun e w' => e = .returned (.int .i64 (idxI (fstI p L))) ∧ Below w.heap.size w w' := by
  obtain ⟨ao, cap, rfl⟩ := h.form
  have H := Lib.hid h
  have HG := Lib.hid hg
  clear h hg
  go_enter Tryz.func92, Tryz.ntmps92
  go_wp2_with fail
  go_loopg [8] L.length (IvRel p L w)
  case atStart => exact ⟨0, rfl, Nat.zero_le _, rfl, by simp, Below.refl _ _⟩
  case round =>
    obtain ⟨i, rfl, hi, rfl, hk, hbel⟩ := hrel
    have HK := Lib.hid hk
    have HB := Lib.hid hbel
    clear hk hbel
    by_cases hlt : i < L.length
    · obtain ⟨bl, off, ce, rfl, _, _, hce, hvc⟩ := (H.out.below HB.out).at hlt
      have hii : (i : Int) < (L.length : Int) := by omega
      have CG := Lib.hid (HG.out i hlt ce wr HB.out hvc)
      obtain ⟨lo, lc, ko, kc, rfl, _⟩ := evar_seven hvc
      have e0 : wr.cell? ⟨bl, off + i * 7 + 0, none⟩ = _ := hce 0 _ rfl
      have e1 : wr.cell? ⟨bl, off + i * 7 + 1, none⟩ = _ := hce 1 _ rfl
      have e2 : wr.cell? ⟨bl, off + i * 7 + 2, none⟩ = _ := hce 2 _ rfl
      have e3 : wr.cell? ⟨bl, off + i * 7 + 3, none⟩ = _ := hce 3 _ rfl
      have e4 : wr.cell? ⟨bl, off + i * 7 + 4, none⟩ = _ := hce 4 _ rfl
      have e5 : wr.cell? ⟨bl, off + i * 7 + 5, none⟩ = _ := hce 5 _ rfl
      have e6 : wr.cell? ⟨bl, off + i * 7 + 6, none⟩ = _ := hce 6 _ rfl
      rw [Nat.add_zero] at e0
      have HS := Lib.hid (fstI_step hlt HK.out)
      clear hce hvc
      generalize L[i] = x at *
      as_aux_lemma =>
      go_wp2_with fail
      refine CG.out.mono ?_
      rintro e w5 ⟨rfl, hb⟩
      have HB5 := Lib.hid (HB.out.trans (hb.mono HB.out.size))
      clear hb CG
      cases hp : p x with
      | true =>
        have HN := Lib.hid (HS.out.1 hp)
        clear hp HS HK
        go_wp2_with fail
        go_ret
        exact ⟨by rw [HN.out] <;> rfl, HB5.out⟩
      | false =>
        have HN := Lib.hid (HS.out.2 hp)
        clear hp HS HK
        go_wp2_with fail
        go_roundg (L.length - (i + 1))
        case measure => omega
        case rel => exact ⟨i + 1, by go_num, by omega, rfl, HN.out, HB5.out⟩
    · have hii : ¬ (i : Int) < (L.length : Int) := by omega
      have he : i = L.length := by omega
      have HN : Hid (fstI p L = none) := by unfold Hid; rw [HK.out, he, List.drop_length]; rfl
      clear HK he
      go_wp2_with fail
      go_ret
      exact ⟨by rw [HN.out] <;> rfl, HB.out⟩
set_option maxRecDepth 100000 in
theorem vcontf_any (g : Nat) (caps : Array Value) (p : VR → Bool) (L : List VR) (v : Value) (B : Nat → Prop) (hl : L.length ≤ 9223372036854775807) (w : World) (h : EVar.Row B w L v)
    (hg : ∀ (k : Nat) (hk : k < L.length) (cs : List Value) (W : World), Below w.heap.size w W → EVar.R B W L[k] cs → Calls Tryz.prog g (#[.agg cs.toArray] ++ caps) W fun e w' => e = .returned (.bool (p L[k])) ∧ Below W.heap.size W w')
    (eg : ∀ args w, (callFunc g args).run Tryz.prog w = .ok (.enter g args) w) :
    Calls Tryz.prog 72 #[v, .func (.func g) #[] caps] w fun e w' => e = .returned (.bool (L.any p)) ∧ Below w.heap.size w w' := by
  have IX := Lib.hid (vindexf_any g caps p L v B hl w h hg eg)
  have HA : Hid (decide (0 ≤ idxI (fstI p L)) = L.any p) := by unfold Hid; rw [idxI_ge, fstI_some]
  obtain ⟨ao, cap, rfl⟩ := h.form
  clear h hg
  generalize idxI (fstI p L) = q at *
  go_enter Tryz.func72, Tryz.ntmps72
  go_wp2_with fail
  refine IX.out.mono ?_
  rintro e w5 ⟨rfl, hb⟩
  go_wp2_with fail
  go_ret
  exact ⟨by rw [← HA.out] <;> rfl, hb⟩

/-! ### entry -/
set_option maxRecDepth 100000 in
theorem entry1_any (nm n1 : ByteArray) (k : Int) (b : Bool) (n : Int) (s : ByteArray) (lo : Option Addr) (ln lc : Nat) (ko : Option Addr) (kn kc : Nat) (b5 : Nat) (w : World) (h : w.cell? ⟨b5, 0, none⟩ = some (.string nm)) :
    Calls Tryz.prog 73 (#[.agg #[.string n1, .int .i64 k, .bool b, .int .i64 n, .string s, .slice lo ln lc, .slice ko kn kc]] ++ #[.pointer (some ⟨b5, 0, none⟩)]) w fun e w' => e = .returned (.bool (n1.toList == nm.toList)) ∧ Below w.heap.size w w' := by
  obtain ⟨W1, hW1⟩ : ∃ W1, w.alloc (.cells #[.string n1, .int .i64 k, .bool b, .int .i64 n, .string s, .slice lo ln lc, .slice ko kn kc] 55 (0, 0)) = W1 := ⟨_, rfl⟩
  have hb1 : Below w.heap.size w W1 := by rw [← hW1]; exact (Below.refl _ w).alloc (Nat.le_refl _) _
  have c1 : W1.cell? ⟨b5, 0, none⟩ = some (.string nm) := (hb1.cell (p := ⟨b5, 0, none⟩) (World.block_lt_of_cell? w _ h)).trans h
  have c0 : W1.cell? ⟨w.heap.size, 0, none⟩ = some (.string n1) := by rw [← hW1, cell_of_blk (hp_new rfl)]; rfl
  have HB := Lib.hid hb1
  clear hb1 h
  go_enter Tryz.func73, Tryz.ntmps73
  go_wp2_with fail
  go_ret
  exact ⟨rfl, HB.out⟩
theorem entry1Enters : ∀ args w, (callFunc 73 args).run Tryz.prog w = .ok (.enter 73 args) w := enters_of Tryz.func73 (by kernel_rfl) rfl
/-- the error's number of one variable behind others -/
def entF (acc : List VR) (x : VR) : Nat := if keyOk x.1 = false then 1 else if validF x.2 ≠ 0 then validF x.2 else if 16 ≤ levelsF x.2 then 13 else if nmR x ∈ acc.map nmR then 7 else 0
theorem entTo_step (acc : List VR) (x : VR) (l : List VR) : entTo acc (x :: l) = if entF acc x ≠ 0 then entF acc x else entTo (acc ++ [x]) l := by
  rw [entTo]
  unfold entF
  by_cases h1 : keyOk x.1 = false
  · rw [if_pos h1, if_pos h1]; rfl
  · rw [if_neg h1, if_neg h1]
    by_cases h2 : validF x.2 ≠ 0
    · rw [if_pos h2, if_pos h2, if_pos h2]
    · rw [if_neg h2, if_neg h2]
      by_cases h3 : 16 ≤ levelsF x.2
      · rw [if_pos h3, if_pos h3]; rfl
      · rw [if_neg h3, if_neg h3]
        by_cases h4 : nmR x ∈ acc.map nmR
        · rw [if_pos h4, if_pos h4]; rfl
        · rw [if_neg h4, if_neg h4, if_neg (fun h => h rfl)]
theorem any_name (acc : List VR) (x : VR) : acc.any (fun y => y.1.toList == x.1.toList) = decide (nmR x ∈ acc.map nmR) := by
  rw [Bool.eq_iff_iff, List.any_eq_true, decide_eq_true_eq, List.mem_map]
  constructor
  · rintro ⟨y, hy, e⟩
    exact ⟨y, hy, by show y.1.data.toList = x.1.data.toList; rw [bytes_beq0 e]⟩
  · rintro ⟨y, hy, e⟩
    refine ⟨y, hy, ?_⟩
    rw [show y.1 = x.1 from bytes_ext e]; simp
end Go.Proofs.YtbndgmbjfgmdnaaGreatDoor
/- The walk over value.entry. -/
namespace Go.Proofs.YtbndgmbjfgmdnaaGreatDoor
open Go.RowKit Go.Deep

set_option maxRecDepth 100000 in
set_option maxHeartbeats 3200000 in
theorem entry_any (L : List VR) (i : Nat) (hi : i < L.length) (v : Value) (B : Nat → Prop) (hl : L.length ≤ 9223372036854775807) (hwf : ∀ x ∈ L, x.2.wf) (w : World) (h : EVar.Row B w L v) :
    Calls Tryz.prog 44 #[v, .int .i64 (i : Nat)] w fun e w' => e = .returned (.int .i64 ((entF (L.take i) L[i] : Nat) : Int)) ∧ Below w.heap.size w w' := by
  obtain ⟨ao, cap, rfl⟩ := h.form
  have hicap : i ≤ cap := by
    rcases h with ⟨_, _, _, rfl⟩ | ⟨_, _, _, e, _, _, hc, _⟩
    · cases hi
    · injection e with _ _ e3; omega
  obtain ⟨bl, off, ce, rfl, _, hbl, hce, hvc⟩ := h.at hi
  obtain ⟨lo, lc, ko, kc, rfl, hva⟩ := evar_seven hvc
  have e0 : w.cell? ⟨bl, off + i * 7 + 0, none⟩ = _ := hce 0 _ rfl
  have e1 : w.cell? ⟨bl, off + i * 7 + 1, none⟩ = _ := hce 1 _ rfl
  have e2 : w.cell? ⟨bl, off + i * 7 + 2, none⟩ = _ := hce 2 _ rfl
  have e3 : w.cell? ⟨bl, off + i * 7 + 3, none⟩ = _ := hce 3 _ rfl
  have e4 : w.cell? ⟨bl, off + i * 7 + 4, none⟩ = _ := hce 4 _ rfl
  have e5 : w.cell? ⟨bl, off + i * 7 + 5, none⟩ = _ := hce 5 _ rfl
  have e6 : w.cell? ⟨bl, off + i * 7 + 6, none⟩ = _ := hce 6 _ rfl
  rw [Nat.add_zero] at e0
  have hii : (i : Int) < (L.length : Int) := by omega
  have hii2 : (i : Int) ≤ (cap : Int) := by omega
  have hxw := hwf L[i] (List.getElem_mem hi)
  have hln : ∀ x : VR, x = L[i] → (L.take i).any (fun y => y.1.toList == x.1.toList) = decide (nmR x ∈ (L.take i).map nmR) := fun x _ => any_name (L.take i) x
  have hrow := h.take (c2 := cap) (Nat.le_of_lt hi) hicap
  have hlt : (L.take i).length ≤ 9223372036854775807 := by rw [List.length_take]; omega
  have hlti : (L.take i).length = i := by rw [List.length_take]; omega
  have CF : Hid (∀ (x : VR) (b5 : Nat) (W : World), W.cell? ⟨b5, 0, none⟩ = some (.string x.1) → Below w.heap.size w W → b5 < W.heap.size → Calls Tryz.prog 72 #[.slice (some ⟨bl, off, none⟩) i cap, .func (.func 73) #[] #[.pointer (some ⟨b5, 0, none⟩)]] W fun e w' => e = .returned (.bool (decide (nmR x ∈ (L.take i).map nmR))) ∧ Below W.heap.size W w') := by
    intro x b5 W hc hb hz
    have := vcontf_any 73 #[.pointer (some ⟨b5, 0, none⟩)] (fun y => y.1.toList == x.1.toList) (L.take i) (.slice (some ⟨bl, off, none⟩) i cap) B hlt W (hrow.below hb) (fun k hk cs W' hW' hR => by
      obtain ⟨lo, lc, ko, kc, rfl, _⟩ := evar_seven hR
      exact entry1_any x.1 _ _ _ _ _ _ _ _ _ _ _ b5 W' ((hW'.cell (p := ⟨b5, 0, none⟩) hz).trans hc)) entry1Enters
    rw [any_name] at this
    exact this
  have HE : Hid (entF (L.take i) L[i] = if keyOk L[i].1 = false then 1 else if validF L[i].2 ≠ 0 then validF L[i].2 else if 16 ≤ levelsF L[i].2 then 13 else if nmR L[i] ∈ (L.take i).map nmR then 7 else 0) := rfl
  clear hln hrow hwf hce hvc hlt hlti
  generalize entF (L.take i) L[i] = res at *
  generalize L[i] = x at *
  have CF2 := CF
  generalize hD : decide (nmR x ∈ (L.take i).map nmR) = dd at *
  have CF : Hid (∀ (b5 : Nat) (W : World), W.cell? ⟨b5, 0, none⟩ = some (.string x.1) → Below w.heap.size w W → b5 < W.heap.size → Calls Tryz.prog 72 #[.slice (some ⟨bl, off, none⟩) i cap, .func (.func 73) #[] #[.pointer (some ⟨b5, 0, none⟩)]] W fun e w' => e = .returned (.bool dd) ∧ Below W.heap.size W w') := fun b5 W h1 h2 h3 => by
    have := CF2.out x b5 W h1 h2 h3
    rw [hD] at this
    exact this
  have HDD : Hid (dd = true ↔ nmR x ∈ (L.take i).map nmR) := by unfold Hid; rw [← hD, decide_eq_true_eq]
  clear CF2 hD
  obtain ⟨W1, hW1⟩ : ∃ W1, w.alloc (.cells #[.string x.1, .int .i64 x.2.kind, .bool x.2.bool, .int .i64 x.2.int, .string x.2.str, .slice lo x.2.list.length lc, .slice ko x.2.keys.length kc] 55 (0, 0)) = W1 := ⟨_, rfl⟩
  have hb1 : Below w.heap.size w W1 := by rw [← hW1]; exact (Below.refl _ w).alloc (Nat.le_refl _) _
  have hk1 : W1.heap[w.heap.size]? = some (.cells #[.string x.1, .int .i64 x.2.kind, .bool x.2.bool, .int .i64 x.2.int, .string x.2.str, .slice lo x.2.list.length lc, .slice ko x.2.keys.length kc] 55 (0, 0)) := by rw [← hW1]; exact hp_new rfl
  have HB := Lib.hid hb1
  have HLT : Hid (w.heap.size < W1.heap.size) := (Array.getElem?_eq_some_iff.1 hk1).1
  have HCW : Hid (∀ W, Below W1.heap.size W1 W → W.cell? ⟨w.heap.size, 0, none⟩ = some (.string x.1) ∧ W.cell? ⟨w.heap.size, 1, none⟩ = some (.int .i64 x.2.kind) ∧ W.cell? ⟨w.heap.size, 2, none⟩ = some (.bool x.2.bool) ∧ W.cell? ⟨w.heap.size, 3, none⟩ = some (.int .i64 x.2.int) ∧ W.cell? ⟨w.heap.size, 4, none⟩ = some (.string x.2.str) ∧ W.cell? ⟨w.heap.size, 5, none⟩ = some (.slice lo x.2.list.length lc) ∧ W.cell? ⟨w.heap.size, 6, none⟩ = some (.slice ko x.2.keys.length kc)) := fun W hW => by
    have := (hW.block _ HLT.out).trans hk1
    exact ⟨cell_of_blk this 0, cell_of_blk this 1, cell_of_blk this 2, cell_of_blk this 3, cell_of_blk this 4, cell_of_blk this 5, cell_of_blk this 6⟩
  have HVA : Hid (∀ W, Below W1.heap.size W1 W → VAt W (.agg #[.int .i64 x.2.kind, .bool x.2.bool, .int .i64 x.2.int, .string x.2.str, .slice lo x.2.list.length lc, .slice ko x.2.keys.length kc]) x.2) := fun W hW => (hva.below (hb1.trans (hW.mono hb1.size))).at_
  have VC := Lib.hid (valid_any _ x.2 W1 (HVA.out W1 (Below.refl _ _)) hxw)
  have LV : Hid (∀ W, Below W1.heap.size W1 W → validF x.2 = 0 → Calls Tryz.prog 71 #[.agg #[.int .i64 x.2.kind, .bool x.2.bool, .int .i64 x.2.int, .string x.2.str, .slice lo x.2.list.length lc, .slice ko x.2.keys.length kc]] W fun e w' => e = .returned (.int .i64 (levelsF x.2 : Nat)) ∧ Below W.heap.size W w') := fun W hW hv => levels_any _ x.2 W (HVA.out W hW) hxw hv
  obtain ⟨c0, c1, c2, c3, c4, c5, c6⟩ := HCW.out W1 (Below.refl _ _)
  have HKO : Hid (keyOk x.1 = (decide (1 ≤ x.1.size) && decide (x.1.size ≤ 64))) := rfl
  clear hva hk1 hb1 hxw h HVA
  generalize validF x.2 = ve at *
  generalize levelsF x.2 = le at *
  by_cases h1 : 1 ≤ x.1.size
  · have t1 : decide ((x.1.size : Int) < 1) = false := decide_eq_false (by omega)
    have t1b : (1 : Int) ≤ (x.1.size : Int) := by omega
    by_cases h64 : x.1.size ≤ 64
    · have t2 : decide ((64 : Int) < (x.1.size : Int)) = false := decide_eq_false (by omega)
      have t2b : (x.1.size : Int) ≤ 64 := by omega
      have HO : Hid (keyOk x.1 = true) := by unfold Hid; rw [HKO.out, decide_eq_true h1, decide_eq_true h64]; rfl
      have HE2 : Hid (res = if ve ≠ 0 then ve else if 16 ≤ le then 13 else if nmR x ∈ (L.take i).map nmR then 7 else 0) := by unfold Hid; rw [HE.out, if_neg (by rw [HO.out]; decide)]
      clear HE HO HKO
      as_aux_lemma =>
      go_enter Tryz.func44, Tryz.ntmps44
      go_wp2_with fail
      refine VC.out.mono ?_
      rintro e w3 ⟨rfl, hb3⟩
      have HB3 := Lib.hid hb3
      obtain ⟨c0, c1, c2, c3, c4, c5, c6⟩ := HCW.out w3 hb3
      clear hb3 VC hW1 e0 e1 e2 e3 e4 e5 e6
      by_cases hv : ve = 0
      · have t3b : ((ve : Int) == 0) = true := by rw [hv]; rfl
        have t3 : ((ve : Int) != 0) = false := by rw [hv]; rfl
        have LV3 := Lib.hid (LV.out w3 HB3.out hv)
        have HE3 : Hid (res = if 16 ≤ le then 13 else if nmR x ∈ (L.take i).map nmR then 7 else 0) := by unfold Hid; rw [HE2.out, if_neg (fun h => h hv)]
        clear hv HE2
        as_aux_lemma =>
        go_wp2_with fail
        refine LV3.out.mono ?_
        rintro e w5 ⟨rfl, hb5⟩
        have HB5 := Lib.hid (HB3.out.trans (hb5.mono HB3.out.size))
        have CF5 := Lib.hid (CF.out w.heap.size w5 (HCW.out w5 HB5.out).1 (HB.out.trans (HB5.out.mono HB.out.size)) (Nat.lt_of_lt_of_le HLT.out HB5.out.size))
        clear hb5 LV3 LV CF HCW c0 c1 c2 c3 c4 c5 c6
        by_cases h16 : 16 ≤ le
        · have t4 : (16 : Int) ≤ (le : Int) := by omega
          have HN : Hid (res = 13) := by unfold Hid; rw [HE3.out, if_pos h16]
          clear HE3 h16
          go_wp2_with fail
          go_ret
          exact ⟨by rw [HN.out] <;> rfl, HB.out.trans (HB5.out.mono HB.out.size)⟩
        · have t4 : decide ((16 : Int) ≤ (le : Int)) = false := decide_eq_false (by omega)
          have t4b : ¬ ((16 : Int) ≤ (le : Int)) := by omega
          have HE4 : Hid (res = if nmR x ∈ (L.take i).map nmR then 7 else 0) := by unfold Hid; rw [HE3.out, if_neg h16]
          clear HE3 h16
          go_wp2_with fail
          refine CF5.out.mono ?_
          rintro e w6 ⟨rfl, hb6⟩
          have HB6 := Lib.hid (HB5.out.trans (hb6.mono HB5.out.size))
          clear hb6 CF5
          cases dd with
          | true =>
            have HN : Hid (res = 7) := by unfold Hid; rw [HE4.out, if_pos (HDD.out.1 rfl)]
            clear HE4 HDD
            go_wp2_with fail
            go_ret
            exact ⟨by rw [HN.out] <;> rfl, HB.out.trans (HB6.out.mono HB.out.size)⟩
          | false =>
            have HN : Hid (res = 0) := by unfold Hid; rw [HE4.out, if_neg (fun h => by have := HDD.out.2 h; cases this)]
            clear HE4 HDD
            go_wp2_with fail
            go_ret
            exact ⟨by rw [HN.out] <;> rfl, HB.out.trans (HB6.out.mono HB.out.size)⟩
      · have t3b : ((ve : Int) == 0) = false := by rw [beq_eq_false_iff_ne]; omega
        have t3 : ((ve : Int) != 0) = true := by simp [bne, t3b]
        have HN : Hid (res = ve) := by unfold Hid; rw [HE2.out, if_pos hv]
        clear hv HE2 LV CF
        as_aux_lemma =>
        go_wp2_with fail
        go_ret
        exact ⟨by rw [HN.out] <;> rfl, HB.out.trans (HB3.out.mono HB.out.size)⟩
    · have t2 : (64 : Int) < (x.1.size : Int) := by omega
      have HN : Hid (res = 1) := by unfold Hid; rw [HE.out, if_pos]; rw [HKO.out, decide_eq_false h64, Bool.and_false]
      clear HE HKO VC LV CF
      as_aux_lemma =>
      go_enter Tryz.func44, Tryz.ntmps44
      go_wp2_with fail
      go_ret
      exact ⟨by rw [HN.out] <;> rfl, HB.out⟩
  · have t1 : (x.1.size : Int) < 1 := by omega
    have HN : Hid (res = 1) := by unfold Hid; rw [HE.out, if_pos]; rw [HKO.out, decide_eq_false h1, Bool.false_and]
    clear HE HKO VC LV CF
    as_aux_lemma =>
    go_enter Tryz.func44, Tryz.ntmps44
    go_wp2_with fail
    go_ret
    exact ⟨by rw [HN.out] <;> rfl, HB.out⟩
end Go.Proofs.YtbndgmbjfgmdnaaGreatDoor
