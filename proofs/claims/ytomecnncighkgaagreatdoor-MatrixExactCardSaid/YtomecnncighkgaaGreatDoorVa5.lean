/- The walks over slices.IndexFunc and ContainsFunc at variables. -/
import Derived.Test.YtomecnncighkgaaGreatDoorVa2
import Derived.Test.YtomecnncighkgaaGreatDoorVa3
import Derived.Test.YtomecnncighkgaaGreatDoorVa4
namespace Go.Proofs.YtomecnncighkgaaGreatDoor
open Go.RowKit Go.Deep

theorem bytes_beq0 {x y : ByteArray} (h : (x.toList == y.toList) = true) : x = y := by
  rw [beq_iff_eq, Lib.toList_data, Lib.toList_data] at h
  exact bytes_ext h
def idxI : Option Nat → Int
  | some i => (i : Nat)
  | none => -1
theorem Tryz.vinfoV : (Tryz.prog.info? 46).map (fun i => (i.zero, i.size, i.bytes)) = some (some (.agg #[.int .i64 0, .bool false, .int .i64 0, .string ByteArray.empty, .slice none 0 0, .slice none 0 0]), 6, 88) := by kernel_rfl
theorem Tryz.vinfoV' : ∃ i, Tryz.prog.info? 46 = some i ∧ i.zero = some (.agg #[.int .i64 0, .bool false, .int .i64 0, .string ByteArray.empty, .slice none 0 0, .slice none 0 0]) ∧ i.size = 6 ∧ i.bytes = 88 := info_parts Tryz.vinfoV

theorem Tryz.vinfoVar : (Tryz.prog.info? 48).map (fun i => (i.zero, i.size, i.bytes)) = some (some (.agg #[.string ByteArray.empty, .int .i64 0, .bool false, .int .i64 0, .string ByteArray.empty, .slice none 0 0, .slice none 0 0]), 7, 104) := by kernel_rfl
theorem Tryz.vinfoVar' : ∃ i, Tryz.prog.info? 48 = some i ∧ i.zero = some (.agg #[.string ByteArray.empty, .int .i64 0, .bool false, .int .i64 0, .string ByteArray.empty, .slice none 0 0, .slice none 0 0]) ∧ i.size = 7 ∧ i.bytes = 104 := info_parts Tryz.vinfoVar

theorem Tryz.built_var (nm : ByteArray) (c0 c1 c2 c3 c4 c5 : Value) :
    Tryz.prog.built 48 [(0, .string nm), (1, .agg #[c0, c1, c2, c3, c4, c5])] = some #[.string nm, c0, c1, c2, c3, c4, c5] := by kernel_rfl
theorem evar_seven {B : Nat → Prop} {w : World} {x : VR} {cs : List Value} (h : EVar.R B w x cs) : ∃ lo lc ko kc, cs = [.string x.1, .int .i64 x.2.kind, .bool x.2.bool, .int .i64 x.2.int, .string x.2.str, .slice lo x.2.list.length lc, .slice ko x.2.keys.length kc] ∧
    VAtB B w (.agg #[.int .i64 x.2.kind, .bool x.2.bool, .int .i64 x.2.int, .string x.2.str, .slice lo x.2.list.length lc, .slice ko x.2.keys.length kc]) x.2 := by
  obtain ⟨c2, rfl, h2⟩ := evar_cells h
  obtain ⟨lo, lc, ko, kc, rfl⟩ := vcellB_slices h2
  exact ⟨lo, lc, ko, kc, rfl, ⟨_, rfl, h2⟩⟩
/-- the first that p holds of -/
def fstI {α : Type} (p : α → Bool) : List α → Option Nat
  | [] => none
  | x :: l => if p x = true then some 0 else (fstI p l).map (· + 1)
theorem fstI_step {α : Type} {p : α → Bool} {L : List α} {i : Nat} (h : i < L.length) (hk : fstI p L = (fstI p (L.drop i)).map (· + i)) :
    (p L[i] = true → fstI p L = some i) ∧ (p L[i] = false → fstI p L = (fstI p (L.drop (i + 1))).map (· + (i + 1))) := by
  rw [List.drop_eq_getElem_cons h, fstI] at hk
  refine ⟨fun e => ?_, fun e => ?_⟩
  · rw [if_pos e] at hk
    rw [hk]; simp
  · rw [if_neg (by rw [e]; simp)] at hk
    rw [hk, Option.map_map]
    congr 1
    funext x
    show x + 1 + i = x + (i + 1)
    omega
theorem fstI_some {α : Type} {p : α → Bool} : ∀ {L : List α}, (fstI p L).isSome = L.any p
  | [] => rfl
  | x :: l => by
    rw [fstI, List.any_cons]
    cases hx : p x with
    | true => rfl
    | false =>
      rw [if_neg (by simp), Option.isSome_map, fstI_some, Bool.false_or]
theorem idxI_ge (o : Option Nat) : decide (0 ≤ idxI o) = o.isSome := by
  cases o with
  | none => rfl
  | some i => show decide ((0 : Int) ≤ ((i : Nat) : Int)) = true; exact decide_eq_true (by omega)
theorem ElemK.Row.take {α : Type} {E : ElemK α} {B : Nat → Prop} {w : World} {L : List α} {ao : Option Addr} {n cap c2 : Nat} (h : E.Row B w L (.slice ao n cap)) {i : Nat} (hi : i ≤ L.length) (hc : i ≤ c2) : E.Row B w (L.take i) (.slice ao i c2) := by
  have hl : (L.take i).length = i := by rw [List.length_take]; omega
  by_cases h0 : i = 0
  · subst h0; exact .inl ⟨ao, c2, rfl, by simp⟩
  rcases h with ⟨_, _, _, rfl⟩ | ⟨bl, off, c, e, h2, h3, h4, h5⟩
  · simp at hi; exact absurd hi h0
  · injection e with e1 e2 e3
    refine .inr ⟨bl, off, c2, by rw [hl, e1], h2, h3, by rw [hl]; exact hc, fun k hk => ?_⟩
    rw [hl] at hk
    obtain ⟨cs, q1, q2⟩ := h5 k (by omega)
    refine ⟨cs, q1, ?_⟩
    rw [List.getElem_take]
    exact q2
def IvRel (p : VR → Bool) (L : List VR) (w1 : World) (f : Nat) (t8 : Value) (wr : World) : Prop :=
  ∃ i : Nat, t8 = .int .i64 (i : Nat) ∧ i ≤ L.length ∧ f = L.length - i ∧ fstI p L = (fstI p (L.drop i)).map (· + i) ∧ Below w1.heap.size w1 wr

set_option maxRecDepth 100000 in
set_option maxHeartbeats 1600000 in
theorem vindexf_any (g : Nat) (caps : Array Value) (p : VR → Bool) (L : List VR) (v : Value) (B : Nat → Prop) (hl : L.length ≤ 9223372036854775807) (w : World) (h : EVar.Row B w L v)
    (hg : ∀ (k : Nat) (hk : k < L.length) (cs : List Value) (W : World), Below w.heap.size w W → EVar.R B W L[k] cs → Calls Tryz.prog g (#[.agg cs.toArray] ++ caps) W fun e w' => e = .returned (.bool (p L[k])) ∧ Below W.heap.size W w')
    (eg : ∀ args w, (callFunc g args).run Tryz.prog w = .ok (.enter g args) w) :
    Calls Tryz.prog 43 #[v, .func (.func g) #[] caps] w fun e w' => e = .returned (.int .i64 (idxI (fstI p L))) ∧ Below w.heap.size w w' := by
  obtain ⟨ao, cap, rfl⟩ := h.form
  have H := Lib.hid h
  have HG := Lib.hid hg
  clear h hg
  go_enter Tryz.func43, Tryz.ntmps43
  go_wp2_with fail
  go_loopg [8] L.length (IvRel p L w)
  case atStart => exact ⟨0, rfl, Nat.zero_le _, rfl, by simp, Below.refl _ _⟩
  case round =>
    obtain ⟨i, rfl, hi, rfl, hk, hbel⟩ := hrel
    have HK := Lib.hid hk
    have HB := Lib.hid hbel
    clear hk hbel
    by_cases hlt : i < L.length
    · obtain ⟨bl, off, ce, rfl, _, _, hce, hvc⟩ := (H.out.below HB.out).at hlt
      have hii : (i : Int) < (L.length : Int) := by omega
      have CG := Lib.hid (HG.out i hlt ce wr HB.out hvc)
      obtain ⟨lo, lc, ko, kc, rfl, _⟩ := evar_seven hvc
      have e0 : wr.cell? ⟨bl, off + i * 7 + 0, none⟩ = _ := hce 0 _ rfl
      have e1 : wr.cell? ⟨bl, off + i * 7 + 1, none⟩ = _ := hce 1 _ rfl
      have e2 : wr.cell? ⟨bl, off + i * 7 + 2, none⟩ = _ := hce 2 _ rfl
      have e3 : wr.cell? ⟨bl, off + i * 7 + 3, none⟩ = _ := hce 3 _ rfl
      have e4 : wr.cell? ⟨bl, off + i * 7 + 4, none⟩ = _ := hce 4 _ rfl
      have e5 : wr.cell? ⟨bl, off + i * 7 + 5, none⟩ = _ := hce 5 _ rfl
      have e6 : wr.cell? ⟨bl, off + i * 7 + 6, none⟩ = _ := hce 6 _ rfl
      rw [Nat.add_zero] at e0
      have HS := Lib.hid (fstI_step hlt HK.out)
      clear hce hvc
      generalize L[i] = x at *
      as_aux_lemma =>
      go_wp2_with fail
      refine CG.out.mono ?_
      rintro e w5 ⟨rfl, hb⟩
      have HB5 := Lib.hid (HB.out.trans (hb.mono HB.out.size))
      clear hb CG
      cases hp : p x with
      | true =>
        have HN := Lib.hid (HS.out.1 hp)
        clear hp HS HK
        go_wp2_with fail
        go_ret
        exact ⟨by rw [HN.out] <;> rfl, HB5.out⟩
      | false =>
        have HN := Lib.hid (HS.out.2 hp)
        clear hp HS HK
        go_wp2_with fail
        go_roundg (L.length - (i + 1))
        case measure => omega
        case rel => exact ⟨i + 1, by go_num, by omega, rfl, HN.out, HB5.out⟩
    · have hii : ¬ (i : Int) < (L.length : Int) := by omega
      have he : i = L.length := by omega
      have HN : Hid (fstI p L = none) := by unfold Hid; rw [HK.out, he, List.drop_length]; rfl
      clear HK he
      go_wp2_with fail
      go_ret
      exact ⟨by rw [HN.out] <;> rfl, HB.out⟩
set_option maxRecDepth 100000 in
theorem vcontf_any (g : Nat) (caps : Array Value) (p : VR → Bool) (L : List VR) (v : Value) (B : Nat → Prop) (hl : L.length ≤ 9223372036854775807) (w : World) (h : EVar.Row B w L v)
    (hg : ∀ (k : Nat) (hk : k < L.length) (cs : List Value) (W : World), Below w.heap.size w W → EVar.R B W L[k] cs → Calls Tryz.prog g (#[.agg cs.toArray] ++ caps) W fun e w' => e = .returned (.bool (p L[k])) ∧ Below W.heap.size W w')
    (eg : ∀ args w, (callFunc g args).run Tryz.prog w = .ok (.enter g args) w) :
    Calls Tryz.prog 68 #[v, .func (.func g) #[] caps] w fun e w' => e = .returned (.bool (L.any p)) ∧ Below w.heap.size w w' := by
  have IX := Lib.hid (vindexf_any g caps p L v B hl w h hg eg)
  have HA : Hid (decide (0 ≤ idxI (fstI p L)) = L.any p) := by unfold Hid; rw [idxI_ge, fstI_some]
  obtain ⟨ao, cap, rfl⟩ := h.form
  clear h hg
  generalize idxI (fstI p L) = q at *
  go_enter Tryz.func68, Tryz.ntmps68
  go_wp2_with fail
  refine IX.out.mono ?_
  rintro e w5 ⟨rfl, hb⟩
  go_wp2_with fail
  go_ret
  exact ⟨by rw [← HA.out] <;> rfl, hb⟩

theorem any_name (acc : List VR) (x : VR) : acc.any (fun y => y.1.toList == x.1.toList) = decide (nmR x ∈ acc.map nmR) := by
  rw [Bool.eq_iff_iff, List.any_eq_true, decide_eq_true_eq, List.mem_map]
  constructor
  · rintro ⟨y, hy, e⟩
    exact ⟨y, hy, by show y.1.data.toList = x.1.data.toList; rw [bytes_beq0 e]⟩
  · rintro ⟨y, hy, e⟩
    refine ⟨y, hy, ?_⟩
    rw [show y.1 = x.1 from bytes_ext e]; simp
end Go.Proofs.YtomecnncighkgaaGreatDoor
/- Matrices in memory. Plain: no program in sight. -/
namespace Go.Proofs.YtomecnncighkgaaGreatDoor
open Go.RowKit Go.Deep

/-- lists of variables, one cell each; axes, two cells each -/
def EVars : ElemK (List VR) := EVar.sl
def EAx : ElemK AX := EStr.two EVal.sl
section
variable {B : Nat → Prop} {w : World}
theorem eax_two {x : AX} {cs : List Value} (h : EAx.R B w x cs) : ∃ ao cap, cs = [.string x.1, .slice ao x.2.length cap] ∧ EVal.Row B w x.2 (.slice ao x.2.length cap) := by
  obtain ⟨c1, c2, rfl, h1, h2⟩ := h
  have h1 : c1 = [.string x.1] := h1
  obtain ⟨v, rfl, hr⟩ := h2
  subst h1
  obtain ⟨ao, cap, rfl⟩ := hr.form
  exact ⟨ao, cap, rfl, hr⟩
theorem eax_mk {x : AX} {v : Value} (h : EVal.Row B w x.2 v) : EAx.R B w x [.string x.1, v] := ⟨[.string x.1], [v], rfl, rfl, v, rfl, h⟩
theorem evars_one {L : List VR} {cs : List Value} (h : EVars.R B w L cs) : ∃ ao cap, cs = [.slice ao L.length cap] ∧ EVar.Row B w L (.slice ao L.length cap) := by
  obtain ⟨v, rfl, hr⟩ := h
  obtain ⟨ao, cap, rfl⟩ := hr.form
  exact ⟨ao, cap, rfl, hr⟩
theorem evars_mk {L : List VR} {v : Value} (h : EVar.Row B w L v) : EVars.R B w L [v] := ⟨v, rfl, h⟩
/-- the cells of a list of variables' element -/
theorem evars_at {L : List (List VR)} {ao : Option Addr} {n cap : Nat} (h : EVars.Row B w L (.slice ao n cap)) {k : Nat} (hk : k < L.length) :
    ∃ bl off a c, ao = some ⟨bl, off, none⟩ ∧ bl < w.heap.size ∧ w.cell? ⟨bl, off + k, none⟩ = some (.slice a L[k].length c) ∧ EVar.Row B w L[k] (.slice a L[k].length c) := by
  obtain ⟨bl, off, cs, rfl, _, h2, hc, hR⟩ := h.at hk
  obtain ⟨a, c, rfl, hr⟩ := evars_one hR
  have e0 : w.cell? ⟨bl, off + k * 1 + 0, none⟩ = _ := hc 0 _ rfl
  rw [Nat.add_zero, Nat.mul_one] at e0
  exact ⟨bl, off, a, c, rfl, h2, e0, hr⟩
theorem eax_at {L : List AX} {ao : Option Addr} {n cap : Nat} (h : EAx.Row B w L (.slice ao n cap)) {k : Nat} (hk : k < L.length) :
    ∃ bl off a c, ao = some ⟨bl, off, none⟩ ∧ bl < w.heap.size ∧ w.cell? ⟨bl, off + k * 2, none⟩ = some (.string L[k].1) ∧ w.cell? ⟨bl, off + k * 2 + 1, none⟩ = some (.slice a L[k].2.length c) ∧ EVal.Row B w L[k].2 (.slice a L[k].2.length c) := by
  obtain ⟨bl, off, cs, rfl, _, h2, hc, hR⟩ := h.at hk
  obtain ⟨a, c, rfl, hr⟩ := eax_two hR
  have e0 : w.cell? ⟨bl, off + k * 2 + 0, none⟩ = _ := hc 0 _ rfl
  have e1 : w.cell? ⟨bl, off + k * 2 + 1, none⟩ = _ := hc 1 _ rfl
  rw [Nat.add_zero] at e0
  exact ⟨bl, off, a, c, rfl, h2, e0, e1, hr⟩
/-- a matrix as it is handed over -/
def MAt (B : Nat → Prop) (w : World) (v : Value) (m : MX) : Prop := ∃ ao ac io ic eo ec, v = .agg #[.slice ao m.axes.length ac, .slice io m.incl.length ic, .slice eo m.excl.length ec] ∧
  EAx.Row B w m.axes (.slice ao m.axes.length ac) ∧ EVars.Row B w m.incl (.slice io m.incl.length ic) ∧ EVars.Row B w m.excl (.slice eo m.excl.length ec)
theorem MAt.below {w1 : World} {v : Value} {m : MX} (h : MAt B w v m) (hb : Below w.heap.size w w1) : MAt B w1 v m := by
  obtain ⟨ao, ac, io, ic, eo, ec, e, h1, h2, h3⟩ := h
  exact ⟨ao, ac, io, ic, eo, ec, e, h1.below hb, h2.below hb, h3.below hb⟩
end
/-- what any memory says of sizes -/
def wfVars (L : List VR) : Prop := L.length ≤ 9223372036854775807 ∧ ∀ x ∈ L, x.1.size ≤ 9223372036854775807 ∧ x.2.wf
def wfAx (x : AX) : Prop := x.1.size ≤ 9223372036854775807 ∧ x.2.length ≤ 9223372036854775807 ∧ ∀ t ∈ x.2, t.wf
structure MX.wf (m : MX) : Prop where
  la : m.axes.length ≤ 9223372036854775807
  li : m.incl.length ≤ 9223372036854775807
  le : m.excl.length ≤ 9223372036854775807
  ax : ∀ x ∈ m.axes, wfAx x
  inc : ∀ L ∈ m.incl, wfVars L
  exc : ∀ L ∈ m.excl, wfVars L

/-! ### the errors of lists, step by step -/
def propE (acc : List VR) (x : VR) : Nat := if keyOk x.1 = false then 1 else if scalF x.2 ≠ 0 then scalF x.2 else if nmR x ∈ acc.map nmR then 7 else 0
theorem propTo_step (acc : List VR) (x : VR) (l : List VR) : propTo acc (x :: l) = if propE acc x ≠ 0 then propE acc x else propTo (acc ++ [x]) l := by
  rw [propTo]
  unfold propE
  by_cases h1 : keyOk x.1 = false
  · rw [if_pos h1, if_pos h1]; rfl
  · rw [if_neg h1, if_neg h1]
    by_cases h2 : scalF x.2 ≠ 0
    · rw [if_pos h2, if_pos h2, if_pos h2]
    · rw [if_neg h2, if_neg h2]
      by_cases h4 : nmR x ∈ acc.map nmR
      · rw [if_pos h4, if_pos h4]; rfl
      · rw [if_neg h4, if_neg h4, if_neg (fun h => h rfl)]
def valsE (acc : List VT) (x : VT) : Nat := if scalF x ≠ 0 then scalF x else if acc.any (fun y => decide (cmpV x y = 0)) = true then 7 else 0
theorem valsTo_step (acc : List VT) (x : VT) (l : List VT) : valsTo acc (x :: l) = if valsE acc x ≠ 0 then valsE acc x else valsTo (acc ++ [x]) l := by
  rw [valsTo]
  unfold valsE
  by_cases h2 : scalF x ≠ 0
  · rw [if_pos h2, if_pos h2, if_pos h2]
  · rw [if_neg h2, if_neg h2]
    by_cases h4 : acc.any (fun y => decide (cmpV x y = 0)) = true
    · rw [if_pos h4, if_pos h4]; rfl
    · rw [if_neg h4, if_neg h4, if_neg (fun h => h rfl)]
def axE (acc : List AX) (x : AX) : Nat := if keyOk x.1 = false then 1 else if nmA x ∈ acc.map nmA then 7 else if valsF x.2 ≠ 0 then valsF x.2 else 0
theorem axTo_step (acc : List AX) (x : AX) (l : List AX) : axTo acc (x :: l) = if axE acc x ≠ 0 then axE acc x else axTo (acc ++ [x]) l := by
  rw [axTo]
  unfold axE
  by_cases h1 : keyOk x.1 = false
  · rw [if_pos h1, if_pos h1]; rfl
  · rw [if_neg h1, if_neg h1]
    by_cases h4 : nmA x ∈ acc.map nmA
    · rw [if_pos h4, if_pos h4]; rfl
    · rw [if_neg h4, if_neg h4]
      by_cases h2 : valsF x.2 ≠ 0
      · rw [if_pos h2, if_pos h2, if_pos h2]
      · rw [if_neg h2, if_neg h2, if_neg (fun h => h rfl)]
/-- a list's error, at one of its places -/
theorem to_step {α : Type} {F : List α → List α → Nat} {E : List α → α → Nat} (hs : ∀ acc x l, F acc (x :: l) = if E acc x ≠ 0 then E acc x else F (acc ++ [x]) l) {L : List α} {i r : Nat} (hi : i < L.length) (h : r = F (L.take i) (L.drop i)) :
    (E (L.take i) L[i] ≠ 0 → r = E (L.take i) L[i]) ∧ (E (L.take i) L[i] = 0 → r = F (L.take (i + 1)) (L.drop (i + 1))) := by
  rw [List.drop_eq_getElem_cons hi, hs] at h
  rw [List.take_succ_eq_append_getElem hi]
  exact ⟨fun k => by rw [h, if_pos k], fun k => by rw [h, if_neg (fun q => q k)]⟩
theorem any_nameA (acc : List AX) (x : AX) : acc.any (fun y => y.1.toList == x.1.toList) = decide (nmA x ∈ acc.map nmA) := by
  rw [Bool.eq_iff_iff, List.any_eq_true, decide_eq_true_eq, List.mem_map]
  constructor
  · rintro ⟨y, hy, e⟩
    exact ⟨y, hy, by show y.1.data.toList = x.1.data.toList; rw [bytes_beq0 e]⟩
  · rintro ⟨y, hy, e⟩
    refine ⟨y, hy, ?_⟩
    rw [show y.1 = x.1 from bytes_ext e]; simp
end Go.Proofs.YtomecnncighkgaaGreatDoor
/- Matching, step by step; no program in sight. -/
namespace Go.Proofs.YtomecnncighkgaaGreatDoor

theorem nm_beq (x y : VR) : (x.1.toList == y.1.toList) = (nmR x == nmR y) := by rw [Lib.toList_data, Lib.toList_data]
theorem mat_step {V P : List VR} {i : Nat} (hi : i < P.length) (h : matF V P = matF V (P.drop i)) :
    (hasF V P[i] = false → matF V P = false) ∧ (hasF V P[i] = true → matF V P = matF V (P.drop (i + 1))) := by
  rw [List.drop_eq_getElem_cons hi] at h
  unfold matF at h ⊢
  rw [List.all_cons] at h
  exact ⟨fun k => by rw [h, k]; rfl, fun k => by rw [h, k, Bool.true_and]⟩
theorem mat_end (V P : List VR) : matF V (P.drop P.length) = true := by rw [List.drop_length]; rfl
theorem fstI_find {α : Type} {p : α → Bool} : ∀ {L : List α} {j : Nat}, fstI p L = some j → ∃ hj : j < L.length, L.find? p = some L[j]
  | [], j, h => by simp [fstI] at h
  | x :: l, j, h => by
    rw [fstI] at h
    rw [List.find?_cons]
    cases hx : p x with
    | true =>
      rw [if_pos hx] at h
      injection h with h
      subst h
      exact ⟨by simp, rfl⟩
    | false =>
      rw [if_neg (by rw [hx]; simp)] at h
      obtain ⟨k, hk, rfl⟩ := Option.map_eq_some_iff.1 h
      obtain ⟨h1, h2⟩ := fstI_find hk
      exact ⟨by simpa using h1, by simpa using h2⟩
theorem fstI_none {α : Type} {p : α → Bool} {L : List α} (h : fstI p L = none) : L.find? p = none := by
  rw [List.find?_eq_none]
  intro x hx hp
  have := fstI_some (p := p) (L := L)
  rw [h] at this
  have h2 : L.any p = true := List.any_eq_true.2 ⟨x, hx, hp⟩
  rw [h2] at this
  cases this
theorem has_none {V : List VR} {x : VR} (h : fstI (fun y => y.1.toList == x.1.toList) V = none) : hasF V x = false := by
  unfold hasF
  have := fstI_none h
  rw [show (fun v : VR => nmR v == nmR x) = (fun y : VR => y.1.toList == x.1.toList) from funext fun y => (nm_beq y x).symm, this]
theorem has_some {V : List VR} {x : VR} {j : Nat} (h : fstI (fun y => y.1.toList == x.1.toList) V = some j) : ∃ hj : j < V.length, hasF V x = decide (cmpV V[j].2 x.2 = 0) := by
  obtain ⟨hj, e⟩ := fstI_find h
  refine ⟨hj, ?_⟩
  unfold hasF
  rw [show (fun v : VR => nmR v == nmR x) = (fun y : VR => y.1.toList == x.1.toList) from funext fun y => (nm_beq y x).symm, e]
theorem has_step {V : List VR} {x : VR} {i : Nat} (hi : i < V.length) (h : hasF V x = hasF (V.drop i) x) :
    ((V[i].1.toList == x.1.toList) = true → hasF V x = decide (cmpV V[i].2 x.2 = 0)) ∧ ((V[i].1.toList == x.1.toList) = false → hasF V x = hasF (V.drop (i + 1)) x) := by
  rw [List.drop_eq_getElem_cons hi] at h
  rw [nm_beq]
  unfold hasF at h ⊢
  rw [List.find?_cons] at h
  exact ⟨fun k => by rw [h, k], fun k => by rw [h, k]⟩
theorem has_end (V : List VR) (x : VR) : hasF (V.drop V.length) x = false := by rw [List.drop_length]; rfl
/-! ### the errors of lists, round by round -/
theorem prop_round {L : List VR} {i : Nat} (hi : i < L.length) (h : propF L = propTo (L.take i) (L.drop i)) :
    (keyOk L[i].1 = false → propF L = 1) ∧ (keyOk L[i].1 = true → (scalF L[i].2 ≠ 0 → propF L = scalF L[i].2) ∧ (scalF L[i].2 = 0 → ((L.take i).any (fun y => y.1.toList == L[i].1.toList) = true → propF L = 7) ∧ ((L.take i).any (fun y => y.1.toList == L[i].1.toList) = false → propF L = propTo (L.take (i + 1)) (L.drop (i + 1))))) := by
  rw [any_name, decide_eq_true_eq, decide_eq_false_iff_not]
  rw [List.drop_eq_getElem_cons hi, propTo] at h
  rw [List.take_succ_eq_append_getElem hi]
  refine ⟨fun k => by rw [h, if_pos k], fun k => ⟨fun k2 => ?_, fun k2 => ⟨fun k3 => ?_, fun k3 => ?_⟩⟩⟩
  · rw [h, if_neg (by rw [k]; simp), if_pos k2]
  · rw [h, if_neg (by rw [k]; simp), if_neg (fun q => q k2), if_pos k3]
  · rw [h, if_neg (by rw [k]; simp), if_neg (fun q => q k2), if_neg k3]
theorem vals_round {L : List VT} {i r : Nat} (hi : i < L.length) (h : r = valsTo (L.take i) (L.drop i)) :
    (scalF L[i] ≠ 0 → r = scalF L[i]) ∧ (scalF L[i] = 0 → ((L.take i).any (fun y => decide (cmpV L[i] y = 0)) = true → r = 7) ∧ ((L.take i).any (fun y => decide (cmpV L[i] y = 0)) = false → r = valsTo (L.take (i + 1)) (L.drop (i + 1)))) := by
  rw [List.drop_eq_getElem_cons hi, valsTo] at h
  rw [List.take_succ_eq_append_getElem hi]
  refine ⟨fun k2 => by rw [h, if_pos k2], fun k2 => ⟨fun k3 => ?_, fun k3 => ?_⟩⟩
  · rw [h, if_neg (fun q => q k2), if_pos k3]
  · rw [h, if_neg (fun q => q k2), if_neg (by rw [k3]; simp)]
theorem ax_round {L : List AX} {i r : Nat} (hi : i < L.length) (h : r = axTo (L.take i) (L.drop i)) :
    (keyOk L[i].1 = false → r = 1) ∧ (keyOk L[i].1 = true → ((L.take i).any (fun y => y.1.toList == L[i].1.toList) = true → r = 7) ∧ ((L.take i).any (fun y => y.1.toList == L[i].1.toList) = false → (valsF L[i].2 ≠ 0 → r = valsF L[i].2) ∧ (valsF L[i].2 = 0 → r = axTo (L.take (i + 1)) (L.drop (i + 1))))) := by
  rw [any_nameA, decide_eq_true_eq, decide_eq_false_iff_not]
  rw [List.drop_eq_getElem_cons hi, axTo] at h
  rw [List.take_succ_eq_append_getElem hi]
  refine ⟨fun k => by rw [h, if_pos k], fun k => ⟨fun k3 => ?_, fun k3 => ⟨fun k2 => ?_, fun k2 => ?_⟩⟩⟩
  · rw [h, if_neg (by rw [k]; simp), if_pos k3]
  · rw [h, if_neg (by rw [k]; simp), if_neg k3, if_pos k2]
  · rw [h, if_neg (by rw [k]; simp), if_neg k3, if_neg (fun q => q k2)]
theorem pats_round {L : List (List VR)} {i r : Nat} (hi : i < L.length) (h : r = patsTo (L.drop i)) : (propF L[i] ≠ 0 → r = propF L[i]) ∧ (propF L[i] = 0 → r = patsTo (L.drop (i + 1))) := by
  rw [List.drop_eq_getElem_cons hi, patsTo] at h
  exact ⟨fun k => by rw [h, if_pos k], fun k => by rw [h, if_neg (fun q => q k)]⟩
theorem any_at {α : Type} {p : α → Bool} {M : List α} {k : Nat} {d : Bool} (hk : k < M.length) (h : d = (M.drop k).any p) : (p M[k] = true → d = true) ∧ (p M[k] = false → d = (M.drop (k + 1)).any p) := by
  rw [List.drop_eq_getElem_cons hk, List.any_cons] at h
  exact ⟨fun q => by rw [h, q, Bool.true_or], fun q => by rw [h, q, Bool.false_or]⟩
theorem any_end {α : Type} {p : α → Bool} {M : List α} {d : Bool} (h : d = (M.drop M.length).any p) : d = false := by rw [h, List.drop_length]; rfl
theorem row_cap {α : Type} {E : ElemK α} {B : Nat → Prop} {w : World} {L : List α} {ao : Option Addr} {n cap : Nat} (h : E.Row B w L (.slice ao n cap)) {i : Nat} (hi : i < L.length) : i ≤ cap := by
  rcases h with ⟨_, _, _, rfl⟩ | ⟨_, _, _, e, _, _, hc, _⟩
  · cases hi
  · injection e with _ _ e3; omega
/-- saturating products -/
theorem sat_at (K : Nat) (hK : 0 < K) : ∀ (l : List AX) (p : Nat), (∀ a ∈ l, a.2.length ≠ 0) → l.foldl (fun n a => min (n * a.2.length) K) (min p K) = min (l.foldl (fun n a => n * a.2.length) p) K
  | [], _, _ => rfl
  | a :: l, p, h => by
    have ha := h a (List.mem_cons_self ..)
    have e : min (min p K * a.2.length) K = min (p * a.2.length) K := by
      by_cases hp : p ≤ K
      · rw [Nat.min_eq_left hp]
      · rw [Nat.min_eq_right (show K ≤ p by omega)]
        have h1 : K ≤ K * a.2.length := Nat.le_mul_of_pos_right _ (by omega)
        have h2 : K * a.2.length ≤ p * a.2.length := Nat.mul_le_mul_right _ (by omega)
        omega
    rw [List.foldl_cons, List.foldl_cons, e]
    exact sat_at K hK l _ fun b hb => h b (List.mem_cons_of_mem _ hb)
theorem prodL_zero : ∀ (l : List AX) (p : Nat), (p = 0 ∨ ∃ a ∈ l, a.2.length = 0) → l.foldl (fun n a => n * a.2.length) p = 0
  | [], p, h => by
    rcases h with h | ⟨a, ha, _⟩
    · exact h
    · cases ha
  | a :: l, p, h => by
    rw [List.foldl_cons]
    refine prodL_zero l _ ?_
    rcases h with h | ⟨b, hb, e⟩
    · left; rw [h, Nat.zero_mul]
    · rcases List.mem_cons.1 hb with rfl | hb
      · left; rw [e, Nat.mul_zero]
      · exact .inr ⟨b, hb, e⟩
theorem many_empty {l : List AX} (h : l.any (fun a => decide (a.2.length = 0)) = true) : manyF l = false := by
  obtain ⟨a, ha, e⟩ := List.any_eq_true.1 h
  unfold manyF prodL
  rw [prodL_zero l 1 (.inr ⟨a, ha, of_decide_eq_true e⟩)]
  rfl
theorem many_sat {l : List AX} (K : Nat) (hK : 256 < K) (h : l.any (fun a => decide (a.2.length = 0)) = false) : manyF l = decide (256 < l.foldl (fun n a => min (n * a.2.length) K) 1) := by
  have h2 : ∀ a ∈ l, a.2.length ≠ 0 := fun a ha e => by
    have : l.any (fun a => decide (a.2.length = 0)) = true := List.any_eq_true.2 ⟨a, ha, decide_eq_true e⟩
    rw [h] at this; cases this
  have := sat_at K (by omega) l 1 h2
  rw [Nat.min_eq_left (show 1 ≤ K by omega)] at this
  rw [this]
  unfold manyF prodL
  rw [Bool.eq_iff_iff, decide_eq_true_eq, decide_eq_true_eq]
  omega
def satK (K : Nat) (l : List AX) : Nat := l.foldl (fun n a => min (n * a.2.length) K) 1
theorem satK_le {K : Nat} (hK : 1 ≤ K) : ∀ (l : List AX), satK K l ≤ K := fun l => by
  unfold satK
  suffices ∀ (l : List AX) (p : Nat), p ≤ K → l.foldl (fun n a => min (n * a.2.length) K) p ≤ K from this l 1 hK
  intro l
  induction l with
  | nil => exact fun p h => h
  | cons a l ih => exact fun p h => by rw [List.foldl_cons]; exact ih _ (Nat.min_le_right _ _)
theorem satK_step {K : Nat} {l : List AX} {i : Nat} (hi : i < l.length) : satK K (l.take (i + 1)) = min (satK K (l.take i) * l[i].2.length) K := by
  unfold satK
  rw [List.take_succ_eq_append_getElem hi, List.foldl_append]
  rfl
theorem below_drN (w : World) (n : Nat) : RowKit.Below w.heap.size w (w.drewN n) := ⟨rfl, rfl, rfl, Nat.le_refl _, fun _ _ => rfl⟩
theorem any_sym (acc : List VT) (x : VT) : acc.any (fun y => decide (cmpV x y = 0)) = acc.any (fun y => decide (cmpV y x = 0)) := by
  congr 1
  funext y
  rw [Bool.eq_iff_iff, decide_eq_true_eq, decide_eq_true_eq]
  exact ⟨cmpV_sym, cmpV_sym⟩
theorem many_any_at {A : List AX} {i : Nat} (hi : i < A.length) (h : A.any (fun a => decide (a.2.length = 0)) = (A.drop i).any (fun a => decide (a.2.length = 0))) :
    (A[i].2.length = 0 → A.any (fun a => decide (a.2.length = 0)) = true) ∧ (A[i].2.length ≠ 0 → A.any (fun a => decide (a.2.length = 0)) = (A.drop (i + 1)).any (fun a => decide (a.2.length = 0))) := by
  have := any_at hi h
  exact ⟨fun k => this.1 (decide_eq_true k), fun k => this.2 (decide_eq_false k)⟩
end Go.Proofs.YtomecnncighkgaaGreatDoor
/- The digits as a row of numbers; no program in sight. -/
namespace Go.Proofs.YtomecnncighkgaaGreatDoor

/-- a row of numbers -/
def dsV (ds : List Nat) : Array Value := (ds.map fun d => Value.int .i64 (d : Nat)).toArray
theorem dsV_at {ds : List Nat} {i : Nat} (hi : i < ds.length) : (dsV ds)[i]? = some (.int .i64 (ds[i] : Nat)) := by
  unfold dsV
  rw [List.getElem?_toArray, List.getElem?_map, List.getElem?_eq_getElem hi]
  rfl
theorem dsV_set (ds : List Nat) (i d : Nat) : (dsV ds).setIfInBounds i (.int .i64 (d : Nat)) = dsV (ds.set i d) := by
  unfold dsV
  rw [List.setIfInBounds_toArray, List.map_set]
theorem set_mid (ds : List Nat) (i d : Nat) (r : List Nat) (hi : i < ds.length) : (ds.take (i + 1) ++ r).set i d = ds.take i ++ d :: r := by
  rw [List.set_append_left _ _ (by rw [List.length_take]; omega), List.take_succ_eq_append_getElem hi, List.set_append_right _ _ (by rw [List.length_take]; omega)]
  simp [Nat.min_eq_left (Nat.le_of_lt hi)]
theorem zeros_drop {A : List AX} {i : Nat} (hi : i < A.length) : zerosL (A.drop i) = 0 :: zerosL (A.drop (i + 1)) := by
  rw [List.drop_eq_getElem_cons hi]; rfl
theorem zeros_len (A : List AX) : (zerosL A).length = A.length := by unfold zerosL; rw [List.length_map]
theorem mid_at (ds : List Nat) (i : Nat) (r : List Nat) (hi : i < ds.length) : (ds.take (i + 1) ++ r)[i]? = some ds[i] := by
  rw [List.getElem?_append_left (by rw [List.length_take]; omega), List.getElem?_take_of_lt (by omega), List.getElem?_eq_getElem hi]
theorem dsV_mid (ds : List Nat) (i : Nat) (r : List Nat) (hi : i < ds.length) : (dsV (ds.take (i + 1) ++ r))[i]? = some (.int .i64 (ds[i] : Nat)) := by
  unfold dsV
  rw [List.getElem?_toArray, List.getElem?_map, mid_at ds i r hi]
  rfl
theorem combs_full {A : List AX} (hne : A ≠ []) (he : A.any (fun a => decide (a.2.length = 0)) = false) : combsF A = fromC A (zerosL A) := by
  unfold combsF
  rw [if_neg hne, from_zeros fun a ha e => by
    have : A.any (fun a => decide (a.2.length = 0)) = true := List.any_eq_true.2 ⟨a, ha, decide_eq_true (by rw [e]; rfl)⟩
    rw [he] at this; cases this]
theorem full_in {A : List AX} (he : A.any (fun a => decide (a.2.length = 0)) = false) : InC A (zerosL A) := inC_zeros fun a ha e => by
  have : A.any (fun a => decide (a.2.length = 0)) = true := List.any_eq_true.2 ⟨a, ha, decide_eq_true (by rw [e]; rfl)⟩
  rw [he] at this; cases this
theorem combF_empty : ∀ {A : List AX}, A.any (fun a => decide (a.2.length = 0)) = true → combF A = []
  | [], h => by simp at h
  | a :: l, h => by
    rw [combF]
    rw [List.any_cons, Bool.or_eq_true] at h
    rcases h with h | h
    · rw [List.length_eq_zero_iff.1 (of_decide_eq_true h)]; rfl
    · rw [combF_empty h]; simp
theorem combs_empty {A : List AX} (h : A = [] ∨ A.any (fun a => decide (a.2.length = 0)) = true) : combsF A = [] := by
  unfold combsF
  by_cases hA : A = []
  · rw [if_pos hA]
  · rw [if_neg hA]
    exact combF_empty (h.resolve_left hA)
/-- what comes behind the combination at some digits -/
def restC (A : List AX) (ds : List Nat) : List (List VR) := match stepC A ds with | some e => fromC A e | none => []
theorem from_rest {A : List AX} {ds : List Nat} (h : InC A ds) : fromC A ds = pickC A ds :: restC A ds := from_step h
theorem rest_some {A : List AX} {ds e : List Nat} (h : stepC A ds = some e) : restC A ds = fromC A e := by unfold restC; rw [h]
theorem rest_none {A : List AX} {ds : List Nat} (h : stepC A ds = none) : restC A ds = [] := by unfold restC; rw [h]
end Go.Proofs.YtomecnncighkgaaGreatDoor
/- What is known of the instances while they are put together; no program in sight. -/
namespace Go.Proofs.YtomecnncighkgaaGreatDoor

def outK (m : MX) (D : List (List VR)) : List (List VR) := (D.filter fun v => !exclF m v).map instF
theorem outK_nil (m : MX) : outK m [] = [] := rfl
theorem outK_snoc (m : MX) (D : List (List VR)) (c : List VR) : (exclF m c = true → outK m (D ++ [c]) = outK m D) ∧ (exclF m c = false → outK m (D ++ [c]) = outK m D ++ [instF c]) := by
  unfold outK
  rw [List.filter_append]
  refine ⟨fun h => ?_, fun h => ?_⟩
  · rw [List.filter_cons_of_neg (by rw [h]; decide), List.filter_nil, List.append_nil]
  · rw [List.filter_cons_of_pos (by rw [h]; decide), List.filter_nil, List.map_append]; rfl
theorem outK_all (m : MX) : outK m (combsF m.axes) = fstOut m := rfl
def incK (m : MX) (i : Nat) : List (List VR) := (m.incl.take i).foldl addInc (fstOut m)
theorem incK_zero (m : MX) : incK m 0 = fstOut m := by unfold incK; rw [List.take_zero]; rfl
theorem incK_all (m : MX) : incK m m.incl.length = outF m := by unfold incK; rw [List.take_length]; rfl
theorem incK_step {m : MX} {i : Nat} (hi : i < m.incl.length) : ((incK m i).any (fun l => agrF l m.incl[i]) = true → incK m (i + 1) = incK m i) ∧ ((incK m i).any (fun l => agrF l m.incl[i]) = false → incK m (i + 1) = incK m i ++ [instF m.incl[i]]) := by
  have e : incK m (i + 1) = addInc (incK m i) m.incl[i] := by
    unfold incK
    rw [List.take_succ_eq_append_getElem hi, List.foldl_append]
    rfl
  rw [e]
  unfold addInc
  exact ⟨fun h => by rw [if_pos h], fun h => by rw [if_neg (by rw [h]; simp)]⟩
theorem inst_len (v : List VR) : (instF v).length = v.length := (sortN_perm (nm := nmR) v).length_eq
theorem inst_wf {v : List VR} (h : wfVars v) : wfVars (instF v) := ⟨by rw [inst_len]; exact h.1, fun x hx => h.2 x ((sortN_perm (nm := nmR) v).mem_iff.1 hx)⟩
theorem isC_wf : ∀ {l : List AX} {c : List VR}, IsC l c → (∀ a ∈ l, wfAx a) → ∀ x ∈ c, x.1.size ≤ 9223372036854775807 ∧ x.2.wf
  | [], [], _, _, x, hx => by cases hx
  | [], _ :: _, h, _, _, _ => by simp [IsC] at h
  | _ :: _, [], h, _, _, _ => by simp [IsC] at h
  | a :: l, y :: c, h, hw, x, hx => by
    rw [IsC] at h
    obtain ⟨⟨h1, h2⟩, h3⟩ := h
    rcases List.mem_cons.1 hx with rfl | hx
    · have := hw a (List.mem_cons_self ..)
      exact ⟨by rw [h1]; exact this.1, this.2.2 _ h2⟩
    · exact isC_wf h3 (fun b hb => hw b (List.mem_cons_of_mem _ hb)) x hx
structure MOk (m : MX) : Prop where
  a8 : m.axes.length ≤ 8
  av : ∀ a ∈ m.axes, a.2.length ≤ 1024
  an : (m.axes.map nmA).Nodup
  i1 : m.incl.length ≤ 1024
  im : ∀ v ∈ m.incl, (v.map nmR).Nodup
theorem mok {m : MX} (h : validM m = 0) : MOk m := by
  obtain ⟨h1, ⟨h2, h3⟩, h4, h5⟩ := (validM_iff m).1 h
  exact ⟨h1, fun a ha => ((vals_iff a.2).1 (h2 a ha).2).1, h3, ((pats_iff m.incl).1 h4).1, fun v hv => ((prop_iff v).1 (((pats_iff m.incl).1 h4).2 v hv)).2⟩
theorem comb_wf {m : MX} (hw : m.wf) (hv : MOk m) {c : List VR} (h : c ∈ combsF m.axes) : wfVars c ∧ c.length ≤ 8 ∧ (c.map nmR).Nodup := by
  have hl := isC_len (combs_mem h).1
  have h8 := hv.a8
  exact ⟨⟨by omega, isC_wf (combs_mem h).1 hw.ax⟩, by omega, combs_nodup hv.an h⟩
theorem fst_len {m : MX} (h : manyF m.axes = false) (D : List (List VR)) {R : List (List VR)} (hD : combsF m.axes = D ++ R) : (outK m D).length ≤ 256 := by
  unfold outK
  rw [List.length_map]
  have h1 := List.length_filter_le (fun v => !exclF m v) D
  have h2 : D.length ≤ (combsF m.axes).length := by rw [hD, List.length_append]; omega
  have h3 : (combsF m.axes).length ≤ prodL m.axes := by
    unfold combsF
    by_cases ha : m.axes = []
    · rw [if_pos ha]; simp
    · rw [if_neg ha, prod_len]; exact Nat.le_refl _
  unfold manyF at h
  have := of_decide_eq_false h
  omega
theorem inc_len {m : MX} (h : manyF m.axes = false) : ∀ i, (incK m i).length ≤ 256 + i
  | 0 => by rw [incK_zero]; exact fst_len h (combsF m.axes) (R := []) (by rw [List.append_nil])
  | i + 1 => by
    have ih := inc_len h i
    by_cases hi : i < m.incl.length
    · have hs := incK_step hi
      cases hb : (incK m i).any (fun l => agrF l m.incl[i]) with
      | true => rw [hs.1 hb]; omega
      | false => rw [hs.2 hb, List.length_append]; simp; omega
    · have : incK m (i + 1) = incK m i := by unfold incK; rw [List.take_of_length_le (by omega), List.take_of_length_le (by omega)]
      rw [this]; omega
theorem fst_wf {m : MX} (hw : m.wf) (hv : MOk m) : ∀ x ∈ fstOut m, wfVars x := fun x hx => by
  obtain ⟨v, hv2, rfl⟩ := List.mem_map.1 hx
  exact inst_wf (comb_wf hw hv (List.mem_filter.1 hv2).1).1
theorem inc_wf {m : MX} (hw : m.wf) (hv : MOk m) : ∀ i, ∀ x ∈ incK m i, wfVars x
  | 0 => by rw [incK_zero]; exact fst_wf hw hv
  | i + 1 => by
    have ih := inc_wf hw hv i
    by_cases hi : i < m.incl.length
    · have hs := incK_step hi
      cases hb : (incK m i).any (fun l => agrF l m.incl[i]) with
      | true => rw [hs.1 hb]; exact ih
      | false =>
        rw [hs.2 hb]
        intro x hx
        rcases List.mem_append.1 hx with hx | hx
        · exact ih x hx
        · rw [List.mem_singleton.1 hx]; exact inst_wf (hw.inc _ (List.getElem_mem hi))
    · have : incK m (i + 1) = incK m i := by unfold incK; rw [List.take_of_length_le (by omega), List.take_of_length_le (by omega)]
      rw [this]; exact ih
/-- the answer, case by case -/
theorem exp_bad {m : MX} (h : validM m ≠ 0) : expE m = validM m ∧ expL m = [] := by
  have e : expE m = validM m := by unfold expE; rw [if_pos h]
  exact ⟨e, by unfold expL; rw [e, if_neg h]⟩
theorem exp_many {m : MX} (h : validM m = 0) (h2 : manyF m.axes = true) : expE m = 15 ∧ expL m = [] := by
  have e : expE m = 15 := by unfold expE; rw [if_neg (fun k => k h), if_pos h2]
  exact ⟨e, by unfold expL; rw [e]; rfl⟩
theorem exp_long {m : MX} (h : validM m = 0) (h2 : manyF m.axes = false) (h3 : 256 < (outF m).length) : expE m = 15 ∧ expL m = [] := by
  have e : expE m = 15 := by unfold expE; rw [if_neg (fun k => k h), if_neg (by rw [h2]; simp), if_pos h3]
  exact ⟨e, by unfold expL; rw [e]; rfl⟩
theorem exp_ok {m : MX} (h : validM m = 0) (h2 : manyF m.axes = false) (h3 : ¬ 256 < (outF m).length) : expE m = 0 ∧ expL m = outF m := by
  have e : expE m = 0 := by unfold expE; rw [if_neg (fun k => k h), if_neg (by rw [h2]; simp), if_neg h3]
  exact ⟨e, by unfold expL; rw [e]; rfl⟩
end Go.Proofs.YtomecnncighkgaaGreatDoor
