/- Rows of the sandbox's things in memory. -/
import Derived.Test.YtghahghbahcpfaaGreatDoorVa1
import Derived.Test.YtghahghbahcpfaaGreatDoorVa2
import Derived.Test.YtghahghbahcpfaaGreatDoorProg
import Derived.Test.YtghahghbahcpfaaGreatDoorVg5
namespace Go.Proofs.YtghahghbahcpfaaGreatDoor
open Go.RowKit

/-- things that lie flat in some cells and reach no block -/
def flatK {α : Type} (sz : Nat) (f : α → List Value) (pos : 0 < sz) (hl : ∀ a, (f a).length = sz) (h1 : ∀ a, ∀ u ∈ f a, u.oneCell' = true) : ElemK α where
  sz := sz
  R _ _ a cs := cs = f a
  pos := pos
  len := by rintro B w a cs rfl; exact hl a
  one := by rintro B w a cs rfl u hu; exact h1 a u hu
  mono := fun h _ => h
  lt := fun h => h
  keep := fun h _ _ => h
def EFile : ElemK FileM := flatK 2 (fun x => [.string x.path, .int .u64 (x.dig : Nat)]) (by decide) (fun _ => rfl) (fun a u hu => by
  simp only [List.mem_cons, List.not_mem_nil, or_false] at hu
  rcases hu with rfl | rfl <;> rfl)
def EOut : ElemK OutM := flatK 3 (fun x => [.string x.name, .int .u64 (x.dig : Nat), .int .i64 x.size]) (by decide) (fun _ => rfl) (fun a u hu => by
  simp only [List.mem_cons, List.not_mem_nil, or_false] at hu
  rcases hu with rfl | rfl | rfl <;> rfl)
def ETim : ElemK TimM := flatK 2 (fun x => [.string x.name, .int .i64 x.time]) (by decide) (fun _ => rfl) (fun a u hu => by
  simp only [List.mem_cons, List.not_mem_nil, or_false] at hu
  rcases hu with rfl | rfl <;> rfl)
def ETst : ElemK TstM := flatK 3 (fun x => [.string x.name, .int .i64 x.status, .int .i64 x.time]) (by decide) (fun _ => rfl) (fun a u hu => by
  simp only [List.mem_cons, List.not_mem_nil, or_false] at hu
  rcases hu with rfl | rfl | rfl <;> rfl)
def EStep : ElemK StepM := flatK 4 (fun x => [.int .i64 x.op, .string x.name, .string x.text, .int .i64 x.n]) (by decide) (fun _ => rfl) (fun a u hu => by
  simp only [List.mem_cons, List.not_mem_nil, or_false] at hu
  rcases hu with rfl | rfl | rfl | rfl <;> rfl)
def EEnt : ElemK EntM := flatK 8 (fun x => [.string x.proj, .int .i64 x.trust, .string x.ref, .string x.key, .int .u64 (x.dig : Nat), .int .i64 x.size, .int .i64 x.created, .int .i64 x.used]) (by decide) (fun _ => rfl) (fun a u hu => by
  simp only [List.mem_cons, List.not_mem_nil, or_false] at hu
  rcases hu with rfl | rfl | rfl | rfl | rfl | rfl | rfl | rfl <;> rfl)
/-- secrets, with the lists that they reach -/
def ESec : ElemK SecM where
  sz := 5
  R B w x cs := ∃ rv ev, cs = [.string x.name, .string x.text, .int .i64 x.level, rv, ev] ∧ EStr.Row B w x.refs rv ∧ EStr.Row B w x.envs ev
  pos := by decide
  len := by rintro B w a cs ⟨_, _, rfl, _⟩; rfl
  one := by
    rintro B w a cs ⟨rv, ev, rfl, h1, h2⟩ u hu
    obtain ⟨_, _, rfl⟩ := h1.form
    obtain ⟨_, _, rfl⟩ := h2.form
    simp only [List.mem_cons, List.not_mem_nil, or_false] at hu
    rcases hu with rfl | rfl | rfl | rfl | rfl <;> rfl
  mono := by rintro B B' w a cs ⟨rv, ev, rfl, h1, h2⟩ hB; exact ⟨rv, ev, rfl, h1.mono hB, h2.mono hB⟩
  lt := by rintro B w a cs ⟨rv, ev, rfl, h1, h2⟩; exact ⟨rv, ev, rfl, h1.lt, h2.lt⟩
  keep := by rintro B w w1 a cs ⟨rv, ev, rfl, h1, h2⟩ hs hb; exact ⟨rv, ev, rfl, h1.keep hs hb, h2.keep hs hb⟩
theorem sec_five {B : Nat → Prop} {w : World} {x : SecM} {cs : List Value} (h : ESec.R B w x cs) : ∃ ro rc eo ec, cs = [.string x.name, .string x.text, .int .i64 x.level, .slice ro x.refs.length rc, .slice eo x.envs.length ec] := by
  obtain ⟨rv, ev, rfl, h1, h2⟩ := h
  obtain ⟨ro, rc, rfl⟩ := h1.form
  obtain ⟨eo, ec, rfl⟩ := h2.form
  exact ⟨ro, rc, eo, ec, rfl⟩
/-- the first that p holds of -/
def fstI {α : Type} (p : α → Bool) : List α → Option Nat
  | [] => none
  | x :: l => if p x = true then some 0 else (fstI p l).map (· + 1)
theorem fstI_step {α : Type} {p : α → Bool} {L : List α} {i : Nat} (h : i < L.length) (hk : fstI p L = (fstI p (L.drop i)).map (· + i)) :
    (p L[i] = true → fstI p L = some i) ∧ (p L[i] = false → fstI p L = (fstI p (L.drop (i + 1))).map (· + (i + 1))) := by
  rw [List.drop_eq_getElem_cons h, fstI] at hk
  refine ⟨fun e => ?_, fun e => ?_⟩
  · rw [if_pos e] at hk
    rw [hk]; simp
  · rw [if_neg (by rw [e]; simp)] at hk
    rw [hk, Option.map_map]
    congr 1
    funext x
    show x + 1 + i = x + (i + 1)
    omega
theorem fstI_some {α : Type} {p : α → Bool} : ∀ {L : List α}, (fstI p L).isSome = L.any p
  | [] => rfl
  | x :: l => by
    rw [fstI, List.any_cons]
    cases hx : p x with
    | true => rfl
    | false =>
      rw [if_neg (by simp), Option.isSome_map, fstI_some, Bool.false_or]
theorem fstI_none {α : Type} {p : α → Bool} : ∀ {L : List α}, fstI p L = none → L.find? p = none
  | [], _ => rfl
  | x :: l, h => by
    rw [fstI] at h
    by_cases hx : p x = true
    · rw [if_pos hx] at h; cases h
    · rw [if_neg hx] at h
      rw [List.find?_cons]
      have hx : p x = false := by simpa using hx
      rw [hx]
      exact fstI_none (Option.map_eq_none_iff.1 h)
theorem fstI_at {α : Type} {p : α → Bool} : ∀ {L : List α} {i : Nat}, fstI p L = some i → ∃ h : i < L.length, L.find? p = some L[i]
  | [], i, h => by cases h
  | x :: l, i, h => by
    rw [fstI] at h
    by_cases hx : p x = true
    · rw [if_pos hx] at h
      injection h with h
      subst h
      exact ⟨by simp, by rw [List.find?_cons, hx]; rfl⟩
    · rw [if_neg hx] at h
      obtain ⟨j, hj, rfl⟩ := Option.map_eq_some_iff.1 h
      obtain ⟨h1, h2⟩ := fstI_at hj
      have hx : p x = false := by simpa using hx
      exact ⟨by simpa using h1, by rw [List.find?_cons, hx]; exact h2⟩
def idxI : Option Nat → Int
  | none => -1
  | some i => ((i : Nat) : Int)
theorem idxI_ge (o : Option Nat) : decide (0 ≤ idxI o) = o.isSome := by
  cases o with
  | none => rfl
  | some i => show decide ((0 : Int) ≤ ((i : Nat) : Int)) = true; exact decide_eq_true (by omega)
/-- what `first` answers -/
def FirPost {α : Type} (E : ElemK α) (Z : List Value) (p : α → Bool) (L : List α) (w : World) (e : Ending) (w' : World) : Prop :=
  ∃ cs, e = .returned (.tuple #[.agg cs.toArray, .bool (L.find? p).isSome]) ∧ (∀ x, L.find? p = some x → E.R (fun _ => True) w' x cs) ∧ (L.find? p = none → cs = Z) ∧ Below w.heap.size w w'
end Go.Proofs.YtghahghbahcpfaaGreatDoor
/- The walks over slices.IndexFunc, ContainsFunc and over sandbox's first, at each kind. -/
namespace Go.Proofs.YtghahghbahcpfaaGreatDoor
open Go.RowKit

def IvRel {α : Type} (p : α → Bool) (L : List α) (w1 : World) (f : Nat) (t8 : Value) (wr : World) : Prop :=
  ∃ i : Nat, t8 = .int .i64 (i : Nat) ∧ i ≤ L.length ∧ f = L.length - i ∧ fstI p L = (fstI p (L.drop i)).map (· + i) ∧ Below w1.heap.size w1 wr
set_option maxRecDepth 100000 in
set_option maxHeartbeats 1600000 in
theorem ixf_f (g : Nat) (caps : Array Value) (p : FileM → Bool) (L : List FileM) (v : Value) (B : Nat → Prop) (hl : L.length ≤ 9223372036854775807) (w : World) (h : EFile.Row B w L v)
    (hg : ∀ (k : Nat) (hk : k < L.length) (cs : List Value) (W : World), Below w.heap.size w W → EFile.R B W L[k] cs → Calls Tryz.prog g (#[.agg cs.toArray] ++ caps) W fun e w' => e = .returned (.bool (p L[k])) ∧ Below W.heap.size W w')
    (eg : ∀ args w, (callFunc g args).run Tryz.prog w = .ok (.enter g args) w) :
    Calls Tryz.prog 149 #[v, .func (.func g) #[] caps] w fun e w' => e = .returned (.int .i64 (idxI (fstI p L))) ∧ Below w.heap.size w w' := by
  obtain ⟨ao, cap, rfl⟩ := h.form
  have H := Lib.hid h
  have HG := Lib.hid hg
  clear h hg
  go_enter Tryz.func149, Tryz.ntmps149
  go_wp2_with fail
  go_loopg [8] L.length (IvRel p L w)
  case atStart => exact ⟨0, rfl, Nat.zero_le _, rfl, by simp, Below.refl _ _⟩
  case round =>
    obtain ⟨i, rfl, hi, rfl, hk, hbel⟩ := hrel
    have HK := Lib.hid hk
    have HB := Lib.hid hbel
    clear hk hbel
    by_cases hlt : i < L.length
    · obtain ⟨bl, off, ce, rfl, _, _, hce, hvc⟩ := (H.out.below HB.out).at hlt
      have hii : (i : Int) < (L.length : Int) := by omega
      have CG := Lib.hid (HG.out i hlt ce wr HB.out hvc)
      have hcs : ce = [.string L[i].path, .int .u64 (L[i].dig : Nat)] := hvc
      subst hcs
      have e0 : wr.cell? ⟨bl, off + i * 2 + 0, none⟩ = _ := hce 0 _ rfl
      have e1 : wr.cell? ⟨bl, off + i * 2 + 1, none⟩ = _ := hce 1 _ rfl
      rw [Nat.add_zero] at e0
      have HS := Lib.hid (fstI_step hlt HK.out)
      clear hce hvc
      generalize L[i] = x at *
      as_aux_lemma =>
      go_wp2_with fail
      refine CG.out.mono ?_
      rintro e w5 ⟨rfl, hb⟩
      have HB5 := Lib.hid (HB.out.trans (hb.mono HB.out.size))
      clear hb CG
      cases hp : p x with
      | true =>
        have HN := Lib.hid (HS.out.1 hp)
        clear hp HS HK
        go_wp2_with fail
        go_ret
        exact ⟨by rw [HN.out] <;> rfl, HB5.out⟩
      | false =>
        have HN := Lib.hid (HS.out.2 hp)
        clear hp HS HK
        go_wp2_with fail
        go_roundg (L.length - (i + 1))
        case measure => omega
        case rel => exact ⟨i + 1, by go_num, by omega, rfl, HN.out, HB5.out⟩
    · have hii : ¬ (i : Int) < (L.length : Int) := by omega
      have he : i = L.length := by omega
      have HN : Hid (fstI p L = none) := by unfold Hid; rw [HK.out, he, List.drop_length]; rfl
      clear HK he
      go_wp2_with fail
      go_ret
      exact ⟨by rw [HN.out] <;> rfl, HB.out⟩
set_option maxRecDepth 100000 in
set_option maxHeartbeats 1600000 in
theorem ixf_o (g : Nat) (caps : Array Value) (p : OutM → Bool) (L : List OutM) (v : Value) (B : Nat → Prop) (hl : L.length ≤ 9223372036854775807) (w : World) (h : EOut.Row B w L v)
    (hg : ∀ (k : Nat) (hk : k < L.length) (cs : List Value) (W : World), Below w.heap.size w W → EOut.R B W L[k] cs → Calls Tryz.prog g (#[.agg cs.toArray] ++ caps) W fun e w' => e = .returned (.bool (p L[k])) ∧ Below W.heap.size W w')
    (eg : ∀ args w, (callFunc g args).run Tryz.prog w = .ok (.enter g args) w) :
    Calls Tryz.prog 130 #[v, .func (.func g) #[] caps] w fun e w' => e = .returned (.int .i64 (idxI (fstI p L))) ∧ Below w.heap.size w w' := by
  obtain ⟨ao, cap, rfl⟩ := h.form
  have H := Lib.hid h
  have HG := Lib.hid hg
  clear h hg
  go_enter Tryz.func130, Tryz.ntmps130
  go_wp2_with fail
  go_loopg [8] L.length (IvRel p L w)
  case atStart => exact ⟨0, rfl, Nat.zero_le _, rfl, by simp, Below.refl _ _⟩
  case round =>
    obtain ⟨i, rfl, hi, rfl, hk, hbel⟩ := hrel
    have HK := Lib.hid hk
    have HB := Lib.hid hbel
    clear hk hbel
    by_cases hlt : i < L.length
    · obtain ⟨bl, off, ce, rfl, _, _, hce, hvc⟩ := (H.out.below HB.out).at hlt
      have hii : (i : Int) < (L.length : Int) := by omega
      have CG := Lib.hid (HG.out i hlt ce wr HB.out hvc)
      have hcs : ce = [.string L[i].name, .int .u64 (L[i].dig : Nat), .int .i64 L[i].size] := hvc
      subst hcs
      have e0 : wr.cell? ⟨bl, off + i * 3 + 0, none⟩ = _ := hce 0 _ rfl
      have e1 : wr.cell? ⟨bl, off + i * 3 + 1, none⟩ = _ := hce 1 _ rfl
      have e2 : wr.cell? ⟨bl, off + i * 3 + 2, none⟩ = _ := hce 2 _ rfl
      rw [Nat.add_zero] at e0
      have HS := Lib.hid (fstI_step hlt HK.out)
      clear hce hvc
      generalize L[i] = x at *
      as_aux_lemma =>
      go_wp2_with fail
      refine CG.out.mono ?_
      rintro e w5 ⟨rfl, hb⟩
      have HB5 := Lib.hid (HB.out.trans (hb.mono HB.out.size))
      clear hb CG
      cases hp : p x with
      | true =>
        have HN := Lib.hid (HS.out.1 hp)
        clear hp HS HK
        go_wp2_with fail
        go_ret
        exact ⟨by rw [HN.out] <;> rfl, HB5.out⟩
      | false =>
        have HN := Lib.hid (HS.out.2 hp)
        clear hp HS HK
        go_wp2_with fail
        go_roundg (L.length - (i + 1))
        case measure => omega
        case rel => exact ⟨i + 1, by go_num, by omega, rfl, HN.out, HB5.out⟩
    · have hii : ¬ (i : Int) < (L.length : Int) := by omega
      have he : i = L.length := by omega
      have HN : Hid (fstI p L = none) := by unfold Hid; rw [HK.out, he, List.drop_length]; rfl
      clear HK he
      go_wp2_with fail
      go_ret
      exact ⟨by rw [HN.out] <;> rfl, HB.out⟩
set_option maxRecDepth 100000 in
set_option maxHeartbeats 1600000 in
theorem ixf_s (g : Nat) (caps : Array Value) (p : SecM → Bool) (L : List SecM) (v : Value) (B : Nat → Prop) (hl : L.length ≤ 9223372036854775807) (w : World) (h : ESec.Row B w L v)
    (hg : ∀ (k : Nat) (hk : k < L.length) (cs : List Value) (W : World), Below w.heap.size w W → ESec.R B W L[k] cs → Calls Tryz.prog g (#[.agg cs.toArray] ++ caps) W fun e w' => e = .returned (.bool (p L[k])) ∧ Below W.heap.size W w')
    (eg : ∀ args w, (callFunc g args).run Tryz.prog w = .ok (.enter g args) w) :
    Calls Tryz.prog 150 #[v, .func (.func g) #[] caps] w fun e w' => e = .returned (.int .i64 (idxI (fstI p L))) ∧ Below w.heap.size w w' := by
  obtain ⟨ao, cap, rfl⟩ := h.form
  have H := Lib.hid h
  have HG := Lib.hid hg
  clear h hg
  go_enter Tryz.func150, Tryz.ntmps150
  go_wp2_with fail
  go_loopg [8] L.length (IvRel p L w)
  case atStart => exact ⟨0, rfl, Nat.zero_le _, rfl, by simp, Below.refl _ _⟩
  case round =>
    obtain ⟨i, rfl, hi, rfl, hk, hbel⟩ := hrel
    have HK := Lib.hid hk
    have HB := Lib.hid hbel
    clear hk hbel
    by_cases hlt : i < L.length
    · obtain ⟨bl, off, ce, rfl, _, _, hce, hvc⟩ := (H.out.below HB.out).at hlt
      have hii : (i : Int) < (L.length : Int) := by omega
      have CG := Lib.hid (HG.out i hlt ce wr HB.out hvc)
      obtain ⟨ro, rc, eo, ec, rfl⟩ := sec_five hvc
      have e0 : wr.cell? ⟨bl, off + i * 5 + 0, none⟩ = _ := hce 0 _ rfl
      have e1 : wr.cell? ⟨bl, off + i * 5 + 1, none⟩ = _ := hce 1 _ rfl
      have e2 : wr.cell? ⟨bl, off + i * 5 + 2, none⟩ = _ := hce 2 _ rfl
      have e3 : wr.cell? ⟨bl, off + i * 5 + 3, none⟩ = _ := hce 3 _ rfl
      have e4 : wr.cell? ⟨bl, off + i * 5 + 4, none⟩ = _ := hce 4 _ rfl
      rw [Nat.add_zero] at e0
      have HS := Lib.hid (fstI_step hlt HK.out)
      clear hce hvc
      generalize L[i] = x at *
      as_aux_lemma =>
      go_wp2_with fail
      refine CG.out.mono ?_
      rintro e w5 ⟨rfl, hb⟩
      have HB5 := Lib.hid (HB.out.trans (hb.mono HB.out.size))
      clear hb CG
      cases hp : p x with
      | true =>
        have HN := Lib.hid (HS.out.1 hp)
        clear hp HS HK
        go_wp2_with fail
        go_ret
        exact ⟨by rw [HN.out] <;> rfl, HB5.out⟩
      | false =>
        have HN := Lib.hid (HS.out.2 hp)
        clear hp HS HK
        go_wp2_with fail
        go_roundg (L.length - (i + 1))
        case measure => omega
        case rel => exact ⟨i + 1, by go_num, by omega, rfl, HN.out, HB5.out⟩
    · have hii : ¬ (i : Int) < (L.length : Int) := by omega
      have he : i = L.length := by omega
      have HN : Hid (fstI p L = none) := by unfold Hid; rw [HK.out, he, List.drop_length]; rfl
      clear HK he
      go_wp2_with fail
      go_ret
      exact ⟨by rw [HN.out] <;> rfl, HB.out⟩
set_option maxRecDepth 100000 in
set_option maxHeartbeats 1600000 in
theorem ixf_e (g : Nat) (caps : Array Value) (p : EntM → Bool) (L : List EntM) (v : Value) (B : Nat → Prop) (hl : L.length ≤ 9223372036854775807) (w : World) (h : EEnt.Row B w L v)
    (hg : ∀ (k : Nat) (hk : k < L.length) (cs : List Value) (W : World), Below w.heap.size w W → EEnt.R B W L[k] cs → Calls Tryz.prog g (#[.agg cs.toArray] ++ caps) W fun e w' => e = .returned (.bool (p L[k])) ∧ Below W.heap.size W w')
    (eg : ∀ args w, (callFunc g args).run Tryz.prog w = .ok (.enter g args) w) :
    Calls Tryz.prog 151 #[v, .func (.func g) #[] caps] w fun e w' => e = .returned (.int .i64 (idxI (fstI p L))) ∧ Below w.heap.size w w' := by
  obtain ⟨ao, cap, rfl⟩ := h.form
  have H := Lib.hid h
  have HG := Lib.hid hg
  clear h hg
  go_enter Tryz.func151, Tryz.ntmps151
  go_wp2_with fail
  go_loopg [8] L.length (IvRel p L w)
  case atStart => exact ⟨0, rfl, Nat.zero_le _, rfl, by simp, Below.refl _ _⟩
  case round =>
    obtain ⟨i, rfl, hi, rfl, hk, hbel⟩ := hrel
    have HK := Lib.hid hk
    have HB := Lib.hid hbel
    clear hk hbel
    by_cases hlt : i < L.length
    · obtain ⟨bl, off, ce, rfl, _, _, hce, hvc⟩ := (H.out.below HB.out).at hlt
      have hii : (i : Int) < (L.length : Int) := by omega
      have CG := Lib.hid (HG.out i hlt ce wr HB.out hvc)
      have hcs : ce = [.string L[i].proj, .int .i64 L[i].trust, .string L[i].ref, .string L[i].key, .int .u64 (L[i].dig : Nat), .int .i64 L[i].size, .int .i64 L[i].created, .int .i64 L[i].used] := hvc
      subst hcs
      have e0 : wr.cell? ⟨bl, off + i * 8 + 0, none⟩ = _ := hce 0 _ rfl
      have e1 : wr.cell? ⟨bl, off + i * 8 + 1, none⟩ = _ := hce 1 _ rfl
      have e2 : wr.cell? ⟨bl, off + i * 8 + 2, none⟩ = _ := hce 2 _ rfl
      have e3 : wr.cell? ⟨bl, off + i * 8 + 3, none⟩ = _ := hce 3 _ rfl
      have e4 : wr.cell? ⟨bl, off + i * 8 + 4, none⟩ = _ := hce 4 _ rfl
      have e5 : wr.cell? ⟨bl, off + i * 8 + 5, none⟩ = _ := hce 5 _ rfl
      have e6 : wr.cell? ⟨bl, off + i * 8 + 6, none⟩ = _ := hce 6 _ rfl
      have e7 : wr.cell? ⟨bl, off + i * 8 + 7, none⟩ = _ := hce 7 _ rfl
      rw [Nat.add_zero] at e0
      have HS := Lib.hid (fstI_step hlt HK.out)
      clear hce hvc
      generalize L[i] = x at *
      as_aux_lemma =>
      go_wp2_with fail
      refine CG.out.mono ?_
      rintro e w5 ⟨rfl, hb⟩
      have HB5 := Lib.hid (HB.out.trans (hb.mono HB.out.size))
      clear hb CG
      cases hp : p x with
      | true =>
        have HN := Lib.hid (HS.out.1 hp)
        clear hp HS HK
        go_wp2_with fail
        go_ret
        exact ⟨by rw [HN.out] <;> rfl, HB5.out⟩
      | false =>
        have HN := Lib.hid (HS.out.2 hp)
        clear hp HS HK
        go_wp2_with fail
        go_roundg (L.length - (i + 1))
        case measure => omega
        case rel => exact ⟨i + 1, by go_num, by omega, rfl, HN.out, HB5.out⟩
    · have hii : ¬ (i : Int) < (L.length : Int) := by omega
      have he : i = L.length := by omega
      have HN : Hid (fstI p L = none) := by unfold Hid; rw [HK.out, he, List.drop_length]; rfl
      clear HK he
      go_wp2_with fail
      go_ret
      exact ⟨by rw [HN.out] <;> rfl, HB.out⟩
set_option maxRecDepth 100000 in
set_option maxHeartbeats 1600000 in
theorem ixf_t (g : Nat) (caps : Array Value) (p : TimM → Bool) (L : List TimM) (v : Value) (B : Nat → Prop) (hl : L.length ≤ 9223372036854775807) (w : World) (h : ETim.Row B w L v)
    (hg : ∀ (k : Nat) (hk : k < L.length) (cs : List Value) (W : World), Below w.heap.size w W → ETim.R B W L[k] cs → Calls Tryz.prog g (#[.agg cs.toArray] ++ caps) W fun e w' => e = .returned (.bool (p L[k])) ∧ Below W.heap.size W w')
    (eg : ∀ args w, (callFunc g args).run Tryz.prog w = .ok (.enter g args) w) :
    Calls Tryz.prog 152 #[v, .func (.func g) #[] caps] w fun e w' => e = .returned (.int .i64 (idxI (fstI p L))) ∧ Below w.heap.size w w' := by
  obtain ⟨ao, cap, rfl⟩ := h.form
  have H := Lib.hid h
  have HG := Lib.hid hg
  clear h hg
  go_enter Tryz.func152, Tryz.ntmps152
  go_wp2_with fail
  go_loopg [8] L.length (IvRel p L w)
  case atStart => exact ⟨0, rfl, Nat.zero_le _, rfl, by simp, Below.refl _ _⟩
  case round =>
    obtain ⟨i, rfl, hi, rfl, hk, hbel⟩ := hrel
    have HK := Lib.hid hk
    have HB := Lib.hid hbel
    clear hk hbel
    by_cases hlt : i < L.length
    · obtain ⟨bl, off, ce, rfl, _, _, hce, hvc⟩ := (H.out.below HB.out).at hlt
      have hii : (i : Int) < (L.length : Int) := by omega
      have CG := Lib.hid (HG.out i hlt ce wr HB.out hvc)
      have hcs : ce = [.string L[i].name, .int .i64 L[i].time] := hvc
      subst hcs
      have e0 : wr.cell? ⟨bl, off + i * 2 + 0, none⟩ = _ := hce 0 _ rfl
      have e1 : wr.cell? ⟨bl, off + i * 2 + 1, none⟩ = _ := hce 1 _ rfl
      rw [Nat.add_zero] at e0
      have HS := Lib.hid (fstI_step hlt HK.out)
      clear hce hvc
      generalize L[i] = x at *
      as_aux_lemma =>
      go_wp2_with fail
      refine CG.out.mono ?_
      rintro e w5 ⟨rfl, hb⟩
      have HB5 := Lib.hid (HB.out.trans (hb.mono HB.out.size))
      clear hb CG
      cases hp : p x with
      | true =>
        have HN := Lib.hid (HS.out.1 hp)
        clear hp HS HK
        go_wp2_with fail
        go_ret
        exact ⟨by rw [HN.out] <;> rfl, HB5.out⟩
      | false =>
        have HN := Lib.hid (HS.out.2 hp)
        clear hp HS HK
        go_wp2_with fail
        go_roundg (L.length - (i + 1))
        case measure => omega
        case rel => exact ⟨i + 1, by go_num, by omega, rfl, HN.out, HB5.out⟩
    · have hii : ¬ (i : Int) < (L.length : Int) := by omega
      have he : i = L.length := by omega
      have HN : Hid (fstI p L = none) := by unfold Hid; rw [HK.out, he, List.drop_length]; rfl
      clear HK he
      go_wp2_with fail
      go_ret
      exact ⟨by rw [HN.out] <;> rfl, HB.out⟩
set_option maxRecDepth 100000 in
set_option maxHeartbeats 1600000 in
theorem first_f (g : Nat) (caps : Array Value) (p : FileM → Bool) (L : List FileM) (v : Value) (B : Nat → Prop) (hl : L.length ≤ 9223372036854775807) (w : World) (h : EFile.Row B w L v)
    (hg : ∀ (k : Nat) (hk : k < L.length) (cs : List Value) (W : World), Below w.heap.size w W → EFile.R B W L[k] cs → Calls Tryz.prog g (#[.agg cs.toArray] ++ caps) W fun e w' => e = .returned (.bool (p L[k])) ∧ Below W.heap.size W w')
    (eg : ∀ args w, (callFunc g args).run Tryz.prog w = .ok (.enter g args) w) :
    Calls Tryz.prog 118 #[v, .func (.func g) #[] caps] w (FirPost EFile [.string ⟨#[]⟩, .int .u64 0] p L w) := by
  obtain ⟨ao, cap, rfl⟩ := h.form
  obtain ⟨w1, hw1⟩ : ∃ w1, w.alloc (.cells #[.string ⟨#[]⟩, .int .u64 0] 85 (0, 0)) = w1 := ⟨_, rfl⟩
  have hk1 : w1.heap[w.heap.size]? = some (.cells #[.string ⟨#[]⟩, .int .u64 0] 85 (0, 0)) := by rw [← hw1]; exact hp_new rfl
  have hz1 : w.heap.size < w1.heap.size := (Array.getElem?_eq_some_iff.1 hk1).1
  have HB1 : Hid (Below w.heap.size w w1) := by unfold Hid; rw [← hw1]; exact (Below.refl _ w).alloc (Nat.le_refl _) _
  have IX := Lib.hid (ixf_f g caps p L _ B hl w1 (h.below HB1.out) (fun k hk cs W hb hR => hg k hk cs W (HB1.out.trans (hb.mono HB1.out.size)) hR) eg)
  have H : Hid (EFile.Row (fun b => b < w.heap.size) w1 L (.slice ao L.length cap)) := (h.lt.mono (fun b hb => hb.2)).below HB1.out
  have HK1 := Lib.hid hk1
  have HW1 := Lib.hid hw1
  have HZ1 := Lib.hid hz1
  obtain ⟨q, hq⟩ : ∃ q, fstI p L = q := ⟨_, rfl⟩
  have HQ := Lib.hid hq
  rw [hq] at IX
  clear h hg hk1 hw1 hz1 hq
  go_enter Tryz.func118, Tryz.ntmps118
  go_upto_region 1 with fail
  rw [HW1.out]
  clear HW1
  go_wp2_with fail
  refine IX.out.mono ?_
  rintro e w3 ⟨rfl, hb⟩
  have HB3 := Lib.hid hb
  have HB03 := Lib.hid (HB1.out.trans (hb.mono HB1.out.size))
  have HK3 : Hid (w3.heap[w.heap.size]? = some (.cells #[.string ⟨#[]⟩, .int .u64 0] 85 (0, 0))) := (hb.block _ HZ1.out).trans HK1.out
  have HZ3 := Lib.hid (Nat.lt_of_lt_of_le HZ1.out hb.size)
  clear hb IX
  cases q with
  | some i =>
    obtain ⟨hlt, hf⟩ := fstI_at HQ.out
    have HF := Lib.hid hf
    obtain ⟨bl, off, ce, rfl, _, _, hce, hvc⟩ := (H.out.below HB3.out).at hlt
    have HR3 := Lib.hid hvc
    have hii : (i : Int) < (L.length : Int) := by omega
    have hi0 : (0 : Int) ≤ (i : Int) := by omega
    have hix : idxI (some i) = (i : Int) := rfl
    have hcs : ce = [.string L[i].path, .int .u64 (L[i].dig : Nat)] := hvc
    subst hcs
    have e0 : w3.cell? ⟨bl, off + i * 2 + 0, none⟩ = _ := hce 0 _ rfl
    have e1 : w3.cell? ⟨bl, off + i * 2 + 1, none⟩ = _ := hce 1 _ rfl
    rw [Nat.add_zero] at e0
    clear hce hvc hf
    generalize L[i] = x at *
    rw [hix]
    clear hix
    as_aux_lemma =>
    go_wp2_with (refine wpList_store_row rfl 85 _ _ rfl w.heap.size rfl 85 _ HK3.out (.agg #[.string x.path, .int .u64 (x.dig : Nat)]) rfl (by kernel_rfl) rfl rfl ?_)
    intro w9 hw9
    have HW9 := Lib.hid hw9
    clear hw9
    go_wp2_with fail
    refine bodyPost_ret (results_row_tmp rfl _ _ w.heap.size 85 _ (0, 0) _ rfl HW9.out.at_ Tryz.underlying85 rfl (by kernel_rfl)) rfl ⟨[.string x.path, .int .u64 (x.dig : Nat)], by rw [HF.out] <;> rfl, fun y hy => ?_, fun hy => ?_, HB03.out.trans (HW9.out.below (Nat.le_refl _))⟩
    · rw [HF.out] at hy
      injection hy with hy
      subst hy
      exact EFile.mono (EFile.keep HR3.out (Nat.le_of_eq HW9.out.size.symm) (fun b hb _ => HW9.out.block b (by omega))) (fun _ _ => trivial)
    · rw [HF.out] at hy; cases hy
  | none =>
    have HF := Lib.hid (fstI_none HQ.out)
    have hix : idxI none = -1 := rfl
    rw [hix]
    clear hix
    as_aux_lemma =>
    go_wp2_with (refine wpList_store_row rfl 85 _ _ rfl w.heap.size rfl 85 _ ((hp_old HZ3.out).trans HK3.out) (.agg #[.string ⟨#[]⟩, .int .u64 0]) rfl (by kernel_rfl) rfl rfl ?_)
    intro w9 hw9
    have HW9 := Lib.hid hw9
    clear hw9
    go_wp2_with fail
    refine bodyPost_ret (results_row_tmp rfl _ _ w.heap.size 85 _ (0, 0) _ rfl HW9.out.at_ Tryz.underlying85 rfl (by kernel_rfl)) rfl ⟨[.string ⟨#[]⟩, .int .u64 0], by rw [HF.out] <;> rfl, fun y hy => (by rw [HF.out] at hy; cases hy), fun _ => rfl, (HB03.out.alloc (Nat.le_of_lt HZ3.out) _).trans (HW9.out.below (Nat.le_refl _))⟩
set_option maxRecDepth 100000 in
set_option maxHeartbeats 1600000 in
theorem first_o (g : Nat) (caps : Array Value) (p : OutM → Bool) (L : List OutM) (v : Value) (B : Nat → Prop) (hl : L.length ≤ 9223372036854775807) (w : World) (h : EOut.Row B w L v)
    (hg : ∀ (k : Nat) (hk : k < L.length) (cs : List Value) (W : World), Below w.heap.size w W → EOut.R B W L[k] cs → Calls Tryz.prog g (#[.agg cs.toArray] ++ caps) W fun e w' => e = .returned (.bool (p L[k])) ∧ Below W.heap.size W w')
    (eg : ∀ args w, (callFunc g args).run Tryz.prog w = .ok (.enter g args) w) :
    Calls Tryz.prog 120 #[v, .func (.func g) #[] caps] w (FirPost EOut [.string ⟨#[]⟩, .int .u64 0, .int .i64 0] p L w) := by
  obtain ⟨ao, cap, rfl⟩ := h.form
  obtain ⟨w1, hw1⟩ : ∃ w1, w.alloc (.cells #[.string ⟨#[]⟩, .int .u64 0, .int .i64 0] 69 (0, 0)) = w1 := ⟨_, rfl⟩
  have hk1 : w1.heap[w.heap.size]? = some (.cells #[.string ⟨#[]⟩, .int .u64 0, .int .i64 0] 69 (0, 0)) := by rw [← hw1]; exact hp_new rfl
  have hz1 : w.heap.size < w1.heap.size := (Array.getElem?_eq_some_iff.1 hk1).1
  have HB1 : Hid (Below w.heap.size w w1) := by unfold Hid; rw [← hw1]; exact (Below.refl _ w).alloc (Nat.le_refl _) _
  have IX := Lib.hid (ixf_o g caps p L _ B hl w1 (h.below HB1.out) (fun k hk cs W hb hR => hg k hk cs W (HB1.out.trans (hb.mono HB1.out.size)) hR) eg)
  have H : Hid (EOut.Row (fun b => b < w.heap.size) w1 L (.slice ao L.length cap)) := (h.lt.mono (fun b hb => hb.2)).below HB1.out
  have HK1 := Lib.hid hk1
  have HW1 := Lib.hid hw1
  have HZ1 := Lib.hid hz1
  obtain ⟨q, hq⟩ : ∃ q, fstI p L = q := ⟨_, rfl⟩
  have HQ := Lib.hid hq
  rw [hq] at IX
  clear h hg hk1 hw1 hz1 hq
  go_enter Tryz.func120, Tryz.ntmps120
  go_upto_region 1 with fail
  rw [HW1.out]
  clear HW1
  go_wp2_with fail
  refine IX.out.mono ?_
  rintro e w3 ⟨rfl, hb⟩
  have HB3 := Lib.hid hb
  have HB03 := Lib.hid (HB1.out.trans (hb.mono HB1.out.size))
  have HK3 : Hid (w3.heap[w.heap.size]? = some (.cells #[.string ⟨#[]⟩, .int .u64 0, .int .i64 0] 69 (0, 0))) := (hb.block _ HZ1.out).trans HK1.out
  have HZ3 := Lib.hid (Nat.lt_of_lt_of_le HZ1.out hb.size)
  clear hb IX
  cases q with
  | some i =>
    obtain ⟨hlt, hf⟩ := fstI_at HQ.out
    have HF := Lib.hid hf
    obtain ⟨bl, off, ce, rfl, _, _, hce, hvc⟩ := (H.out.below HB3.out).at hlt
    have HR3 := Lib.hid hvc
    have hii : (i : Int) < (L.length : Int) := by omega
    have hi0 : (0 : Int) ≤ (i : Int) := by omega
    have hix : idxI (some i) = (i : Int) := rfl
    have hcs : ce = [.string L[i].name, .int .u64 (L[i].dig : Nat), .int .i64 L[i].size] := hvc
    subst hcs
    have e0 : w3.cell? ⟨bl, off + i * 3 + 0, none⟩ = _ := hce 0 _ rfl
    have e1 : w3.cell? ⟨bl, off + i * 3 + 1, none⟩ = _ := hce 1 _ rfl
    have e2 : w3.cell? ⟨bl, off + i * 3 + 2, none⟩ = _ := hce 2 _ rfl
    rw [Nat.add_zero] at e0
    clear hce hvc hf
    generalize L[i] = x at *
    rw [hix]
    clear hix
    as_aux_lemma =>
    go_wp2_with (refine wpList_store_row rfl 69 _ _ rfl w.heap.size rfl 69 _ HK3.out (.agg #[.string x.name, .int .u64 (x.dig : Nat), .int .i64 x.size]) rfl (by kernel_rfl) rfl rfl ?_)
    intro w9 hw9
    have HW9 := Lib.hid hw9
    clear hw9
    go_wp2_with fail
    refine bodyPost_ret (results_row_tmp rfl _ _ w.heap.size 69 _ (0, 0) _ rfl HW9.out.at_ Tryz.underlying69 rfl (by kernel_rfl)) rfl ⟨[.string x.name, .int .u64 (x.dig : Nat), .int .i64 x.size], by rw [HF.out] <;> rfl, fun y hy => ?_, fun hy => ?_, HB03.out.trans (HW9.out.below (Nat.le_refl _))⟩
    · rw [HF.out] at hy
      injection hy with hy
      subst hy
      exact EOut.mono (EOut.keep HR3.out (Nat.le_of_eq HW9.out.size.symm) (fun b hb _ => HW9.out.block b (by omega))) (fun _ _ => trivial)
    · rw [HF.out] at hy; cases hy
  | none =>
    have HF := Lib.hid (fstI_none HQ.out)
    have hix : idxI none = -1 := rfl
    rw [hix]
    clear hix
    as_aux_lemma =>
    go_wp2_with (refine wpList_store_row rfl 69 _ _ rfl w.heap.size rfl 69 _ ((hp_old HZ3.out).trans HK3.out) (.agg #[.string ⟨#[]⟩, .int .u64 0, .int .i64 0]) rfl (by kernel_rfl) rfl rfl ?_)
    intro w9 hw9
    have HW9 := Lib.hid hw9
    clear hw9
    go_wp2_with fail
    refine bodyPost_ret (results_row_tmp rfl _ _ w.heap.size 69 _ (0, 0) _ rfl HW9.out.at_ Tryz.underlying69 rfl (by kernel_rfl)) rfl ⟨[.string ⟨#[]⟩, .int .u64 0, .int .i64 0], by rw [HF.out] <;> rfl, fun y hy => (by rw [HF.out] at hy; cases hy), fun _ => rfl, (HB03.out.alloc (Nat.le_of_lt HZ3.out) _).trans (HW9.out.below (Nat.le_refl _))⟩
set_option maxRecDepth 100000 in
set_option maxHeartbeats 1600000 in
theorem first_s (g : Nat) (caps : Array Value) (p : SecM → Bool) (L : List SecM) (v : Value) (B : Nat → Prop) (hl : L.length ≤ 9223372036854775807) (w : World) (h : ESec.Row B w L v)
    (hg : ∀ (k : Nat) (hk : k < L.length) (cs : List Value) (W : World), Below w.heap.size w W → ESec.R B W L[k] cs → Calls Tryz.prog g (#[.agg cs.toArray] ++ caps) W fun e w' => e = .returned (.bool (p L[k])) ∧ Below W.heap.size W w')
    (eg : ∀ args w, (callFunc g args).run Tryz.prog w = .ok (.enter g args) w) :
    Calls Tryz.prog 122 #[v, .func (.func g) #[] caps] w (FirPost ESec [.string ⟨#[]⟩, .string ⟨#[]⟩, .int .i64 0, .slice none 0 0, .slice none 0 0] p L w) := by
  obtain ⟨ao, cap, rfl⟩ := h.form
  obtain ⟨w1, hw1⟩ : ∃ w1, w.alloc (.cells #[.string ⟨#[]⟩, .string ⟨#[]⟩, .int .i64 0, .slice none 0 0, .slice none 0 0] 110 (0, 0)) = w1 := ⟨_, rfl⟩
  have hk1 : w1.heap[w.heap.size]? = some (.cells #[.string ⟨#[]⟩, .string ⟨#[]⟩, .int .i64 0, .slice none 0 0, .slice none 0 0] 110 (0, 0)) := by rw [← hw1]; exact hp_new rfl
  have hz1 : w.heap.size < w1.heap.size := (Array.getElem?_eq_some_iff.1 hk1).1
  have HB1 : Hid (Below w.heap.size w w1) := by unfold Hid; rw [← hw1]; exact (Below.refl _ w).alloc (Nat.le_refl _) _
  have IX := Lib.hid (ixf_s g caps p L _ B hl w1 (h.below HB1.out) (fun k hk cs W hb hR => hg k hk cs W (HB1.out.trans (hb.mono HB1.out.size)) hR) eg)
  have H : Hid (ESec.Row (fun b => b < w.heap.size) w1 L (.slice ao L.length cap)) := (h.lt.mono (fun b hb => hb.2)).below HB1.out
  have HK1 := Lib.hid hk1
  have HW1 := Lib.hid hw1
  have HZ1 := Lib.hid hz1
  obtain ⟨q, hq⟩ : ∃ q, fstI p L = q := ⟨_, rfl⟩
  have HQ := Lib.hid hq
  rw [hq] at IX
  clear h hg hk1 hw1 hz1 hq
  go_enter Tryz.func122, Tryz.ntmps122
  go_upto_region 1 with fail
  rw [HW1.out]
  clear HW1
  go_wp2_with fail
  refine IX.out.mono ?_
  rintro e w3 ⟨rfl, hb⟩
  have HB3 := Lib.hid hb
  have HB03 := Lib.hid (HB1.out.trans (hb.mono HB1.out.size))
  have HK3 : Hid (w3.heap[w.heap.size]? = some (.cells #[.string ⟨#[]⟩, .string ⟨#[]⟩, .int .i64 0, .slice none 0 0, .slice none 0 0] 110 (0, 0))) := (hb.block _ HZ1.out).trans HK1.out
  have HZ3 := Lib.hid (Nat.lt_of_lt_of_le HZ1.out hb.size)
  clear hb IX
  cases q with
  | some i =>
    obtain ⟨hlt, hf⟩ := fstI_at HQ.out
    have HF := Lib.hid hf
    obtain ⟨bl, off, ce, rfl, _, _, hce, hvc⟩ := (H.out.below HB3.out).at hlt
    have HR3 := Lib.hid hvc
    have hii : (i : Int) < (L.length : Int) := by omega
    have hi0 : (0 : Int) ≤ (i : Int) := by omega
    have hix : idxI (some i) = (i : Int) := rfl
    obtain ⟨ro, rc, eo, ec, rfl⟩ := sec_five hvc
    have e0 : w3.cell? ⟨bl, off + i * 5 + 0, none⟩ = _ := hce 0 _ rfl
    have e1 : w3.cell? ⟨bl, off + i * 5 + 1, none⟩ = _ := hce 1 _ rfl
    have e2 : w3.cell? ⟨bl, off + i * 5 + 2, none⟩ = _ := hce 2 _ rfl
    have e3 : w3.cell? ⟨bl, off + i * 5 + 3, none⟩ = _ := hce 3 _ rfl
    have e4 : w3.cell? ⟨bl, off + i * 5 + 4, none⟩ = _ := hce 4 _ rfl
    rw [Nat.add_zero] at e0
    clear hce hvc hf
    generalize L[i] = x at *
    rw [hix]
    clear hix
    as_aux_lemma =>
    go_wp2_with (refine wpList_store_row rfl 110 _ _ rfl w.heap.size rfl 110 _ HK3.out (.agg #[.string x.name, .string x.text, .int .i64 x.level, .slice ro x.refs.length rc, .slice eo x.envs.length ec]) rfl (by kernel_rfl) rfl rfl ?_)
    intro w9 hw9
    have HW9 := Lib.hid hw9
    clear hw9
    go_wp2_with fail
    refine bodyPost_ret (results_row_tmp rfl _ _ w.heap.size 110 _ (0, 0) _ rfl HW9.out.at_ Tryz.underlying110 rfl (by kernel_rfl)) rfl ⟨[.string x.name, .string x.text, .int .i64 x.level, .slice ro x.refs.length rc, .slice eo x.envs.length ec], by rw [HF.out] <;> rfl, fun y hy => ?_, fun hy => ?_, HB03.out.trans (HW9.out.below (Nat.le_refl _))⟩
    · rw [HF.out] at hy
      injection hy with hy
      subst hy
      exact ESec.mono (ESec.keep HR3.out (Nat.le_of_eq HW9.out.size.symm) (fun b hb _ => HW9.out.block b (by omega))) (fun _ _ => trivial)
    · rw [HF.out] at hy; cases hy
  | none =>
    have HF := Lib.hid (fstI_none HQ.out)
    have hix : idxI none = -1 := rfl
    rw [hix]
    clear hix
    as_aux_lemma =>
    go_wp2_with (refine wpList_store_row rfl 110 _ _ rfl w.heap.size rfl 110 _ ((hp_old HZ3.out).trans HK3.out) (.agg #[.string ⟨#[]⟩, .string ⟨#[]⟩, .int .i64 0, .slice none 0 0, .slice none 0 0]) rfl (by kernel_rfl) rfl rfl ?_)
    intro w9 hw9
    have HW9 := Lib.hid hw9
    clear hw9
    go_wp2_with fail
    refine bodyPost_ret (results_row_tmp rfl _ _ w.heap.size 110 _ (0, 0) _ rfl HW9.out.at_ Tryz.underlying110 rfl (by kernel_rfl)) rfl ⟨[.string ⟨#[]⟩, .string ⟨#[]⟩, .int .i64 0, .slice none 0 0, .slice none 0 0], by rw [HF.out] <;> rfl, fun y hy => (by rw [HF.out] at hy; cases hy), fun _ => rfl, (HB03.out.alloc (Nat.le_of_lt HZ3.out) _).trans (HW9.out.below (Nat.le_refl _))⟩
set_option maxRecDepth 100000 in
set_option maxHeartbeats 1600000 in
theorem first_t (g : Nat) (caps : Array Value) (p : TimM → Bool) (L : List TimM) (v : Value) (B : Nat → Prop) (hl : L.length ≤ 9223372036854775807) (w : World) (h : ETim.Row B w L v)
    (hg : ∀ (k : Nat) (hk : k < L.length) (cs : List Value) (W : World), Below w.heap.size w W → ETim.R B W L[k] cs → Calls Tryz.prog g (#[.agg cs.toArray] ++ caps) W fun e w' => e = .returned (.bool (p L[k])) ∧ Below W.heap.size W w')
    (eg : ∀ args w, (callFunc g args).run Tryz.prog w = .ok (.enter g args) w) :
    Calls Tryz.prog 126 #[v, .func (.func g) #[] caps] w (FirPost ETim [.string ⟨#[]⟩, .int .i64 0] p L w) := by
  obtain ⟨ao, cap, rfl⟩ := h.form
  obtain ⟨w1, hw1⟩ : ∃ w1, w.alloc (.cells #[.string ⟨#[]⟩, .int .i64 0] 115 (0, 0)) = w1 := ⟨_, rfl⟩
  have hk1 : w1.heap[w.heap.size]? = some (.cells #[.string ⟨#[]⟩, .int .i64 0] 115 (0, 0)) := by rw [← hw1]; exact hp_new rfl
  have hz1 : w.heap.size < w1.heap.size := (Array.getElem?_eq_some_iff.1 hk1).1
  have HB1 : Hid (Below w.heap.size w w1) := by unfold Hid; rw [← hw1]; exact (Below.refl _ w).alloc (Nat.le_refl _) _
  have IX := Lib.hid (ixf_t g caps p L _ B hl w1 (h.below HB1.out) (fun k hk cs W hb hR => hg k hk cs W (HB1.out.trans (hb.mono HB1.out.size)) hR) eg)
  have H : Hid (ETim.Row (fun b => b < w.heap.size) w1 L (.slice ao L.length cap)) := (h.lt.mono (fun b hb => hb.2)).below HB1.out
  have HK1 := Lib.hid hk1
  have HW1 := Lib.hid hw1
  have HZ1 := Lib.hid hz1
  obtain ⟨q, hq⟩ : ∃ q, fstI p L = q := ⟨_, rfl⟩
  have HQ := Lib.hid hq
  rw [hq] at IX
  clear h hg hk1 hw1 hz1 hq
  go_enter Tryz.func126, Tryz.ntmps126
  go_upto_region 1 with fail
  rw [HW1.out]
  clear HW1
  go_wp2_with fail
  refine IX.out.mono ?_
  rintro e w3 ⟨rfl, hb⟩
  have HB3 := Lib.hid hb
  have HB03 := Lib.hid (HB1.out.trans (hb.mono HB1.out.size))
  have HK3 : Hid (w3.heap[w.heap.size]? = some (.cells #[.string ⟨#[]⟩, .int .i64 0] 115 (0, 0))) := (hb.block _ HZ1.out).trans HK1.out
  have HZ3 := Lib.hid (Nat.lt_of_lt_of_le HZ1.out hb.size)
  clear hb IX
  cases q with
  | some i =>
    obtain ⟨hlt, hf⟩ := fstI_at HQ.out
    have HF := Lib.hid hf
    obtain ⟨bl, off, ce, rfl, _, _, hce, hvc⟩ := (H.out.below HB3.out).at hlt
    have HR3 := Lib.hid hvc
    have hii : (i : Int) < (L.length : Int) := by omega
    have hi0 : (0 : Int) ≤ (i : Int) := by omega
    have hix : idxI (some i) = (i : Int) := rfl
    have hcs : ce = [.string L[i].name, .int .i64 L[i].time] := hvc
    subst hcs
    have e0 : w3.cell? ⟨bl, off + i * 2 + 0, none⟩ = _ := hce 0 _ rfl
    have e1 : w3.cell? ⟨bl, off + i * 2 + 1, none⟩ = _ := hce 1 _ rfl
    rw [Nat.add_zero] at e0
    clear hce hvc hf
    generalize L[i] = x at *
    rw [hix]
    clear hix
    as_aux_lemma =>
    go_wp2_with (refine wpList_store_row rfl 115 _ _ rfl w.heap.size rfl 115 _ HK3.out (.agg #[.string x.name, .int .i64 x.time]) rfl (by kernel_rfl) rfl rfl ?_)
    intro w9 hw9
    have HW9 := Lib.hid hw9
    clear hw9
    go_wp2_with fail
    refine bodyPost_ret (results_row_tmp rfl _ _ w.heap.size 115 _ (0, 0) _ rfl HW9.out.at_ Tryz.underlying115 rfl (by kernel_rfl)) rfl ⟨[.string x.name, .int .i64 x.time], by rw [HF.out] <;> rfl, fun y hy => ?_, fun hy => ?_, HB03.out.trans (HW9.out.below (Nat.le_refl _))⟩
    · rw [HF.out] at hy
      injection hy with hy
      subst hy
      exact ETim.mono (ETim.keep HR3.out (Nat.le_of_eq HW9.out.size.symm) (fun b hb _ => HW9.out.block b (by omega))) (fun _ _ => trivial)
    · rw [HF.out] at hy; cases hy
  | none =>
    have HF := Lib.hid (fstI_none HQ.out)
    have hix : idxI none = -1 := rfl
    rw [hix]
    clear hix
    as_aux_lemma =>
    go_wp2_with (refine wpList_store_row rfl 115 _ _ rfl w.heap.size rfl 115 _ ((hp_old HZ3.out).trans HK3.out) (.agg #[.string ⟨#[]⟩, .int .i64 0]) rfl (by kernel_rfl) rfl rfl ?_)
    intro w9 hw9
    have HW9 := Lib.hid hw9
    clear hw9
    go_wp2_with fail
    refine bodyPost_ret (results_row_tmp rfl _ _ w.heap.size 115 _ (0, 0) _ rfl HW9.out.at_ Tryz.underlying115 rfl (by kernel_rfl)) rfl ⟨[.string ⟨#[]⟩, .int .i64 0], by rw [HF.out] <;> rfl, fun y hy => (by rw [HF.out] at hy; cases hy), fun _ => rfl, (HB03.out.alloc (Nat.le_of_lt HZ3.out) _).trans (HW9.out.below (Nat.le_refl _))⟩
end Go.Proofs.YtghahghbahcpfaaGreatDoor
/- The walks over sandbox's small functions: Declared, class, the searches. -/
namespace Go.Proofs.YtghahghbahcpfaaGreatDoor
open Go.RowKit

theorem tl_eq (x y : ByteArray) : (x.toList == y.toList) = decide (x = y) := by
  rw [Bool.eq_iff_iff, beq_iff_eq, decide_eq_true_eq, Lib.toList_data, Lib.toList_data]
  exact ⟨fun h => by rw [← Lib.mk_data x, h, Lib.mk_data], fun h => by rw [h]⟩
theorem class_any (b : Bool) (z : Int) (w : World) : Calls Tryz.prog 82 #[.bool b, .int .i64 z] w fun e w' => e = .returned (.int .i64 (classF b z)) ∧ w' = w := by
  cases b <;>
  · go_enter Tryz.func82, Tryz.ntmps82
    go_wp2
    go_ret
    exact ⟨rfl, rfl⟩
theorem refin_any (b : Bool) (w : World) : Calls Tryz.prog 83 #[.bool b] w fun e w' => e = .returned (.int .i64 (classF (!b) 7)) ∧ w' = w := by
  have H := Lib.hid (class_any (!b) 7 w)
  go_enter Tryz.func83, Tryz.ntmps83
  go_wp2_with fail
  refine H.out.mono ?_
  rintro e w2 ⟨rfl, rfl⟩
  go_wp2_with fail
  go_ret
  exact ⟨rfl, rfl⟩
/-- a job's cells -/
abbrev jobA (c : Nat → Value) : Value := .agg #[c 0, c 1, c 2, c 3, c 4, c 5, c 6, c 7, c 8, c 9, c 10, c 11, c 12, c 13, c 14, c 15, c 16, c 17, c 18, c 19, c 20, c 21, c 22, c 23, c 24, c 25, c 26, c 27, c 28, c 29, c 30, c 31, c 32, c 33, c 34, c 35, c 36, c 37, c 38]
/-- whether a path is a declared input -/
def declF (ss : List ByteArray) (p : ByteArray) : Bool := G6.ganyTo ss p.data.toList ss.length
theorem strs6 {w : World} {v : Value} {ss : List ByteArray} {B : Nat → Prop} (h : EStr.Row B w ss v) : G6.StrsAt w v ss := by
  rcases strs_row h with h | ⟨b, off, cap, h1, h2, _, h3⟩
  · exact .inl h
  · exact .inr ⟨b, off, cap, h1, h2, h3⟩
set_option maxRecDepth 100000 in
set_option maxHeartbeats 1600000 in
theorem decl_any (c : Nat → Value) (ss : List ByteArray) (io : Option Addr) (ic : Nat) (p : ByteArray) (B : Nat → Prop) (hs : p.size ≤ 1000000) (hn : ss.length ≤ 1000000) (hss : ∀ x ∈ ss, x.size ≤ 1000000) (e24 : c 24 = .slice io ss.length ic) (w : World) (h : EStr.Row B w ss (.slice io ss.length ic)) :
    Calls Tryz.prog 19 #[jobA c, .string p] w fun e w' => e = .returned (.bool (declF ss p)) ∧ Below w.heap.size w w' := by
  obtain ⟨w1, hw1⟩ : ∃ w1, w.alloc (.cells #[c 0, c 1, c 2, c 3, c 4, c 5, c 6, c 7, c 8, c 9, c 10, c 11, c 12, c 13, c 14, c 15, c 16, c 17, c 18, c 19, c 20, c 21, c 22, c 23, c 24, c 25, c 26, c 27, c 28, c 29, c 30, c 31, c 32, c 33, c 34, c 35, c 36, c 37, c 38] 38 (0, 0)) = w1 := ⟨_, rfl⟩
  have hk1 : w1.heap[w.heap.size]? = some (.cells #[c 0, c 1, c 2, c 3, c 4, c 5, c 6, c 7, c 8, c 9, c 10, c 11, c 12, c 13, c 14, c 15, c 16, c 17, c 18, c 19, c 20, c 21, c 22, c 23, c 24, c 25, c 26, c 27, c 28, c 29, c 30, c 31, c 32, c 33, c 34, c 35, c 36, c 37, c 38] 38 (0, 0)) := by rw [← hw1]; exact hp_new rfl
  have HB1 : Hid (Below w.heap.size w w1) := by unfold Hid; rw [← hw1]; exact (Below.refl _ w).alloc (Nat.le_refl _) _
  have c24 : w1.cell? ⟨w.heap.size, 24, none⟩ = some (.slice io ss.length ic) := by rw [← e24]; exact cell_of_blk hk1 24
  have GA := Lib.hid (G6.gany_any ss (.slice io ss.length ic) p hs hn hss w1 (strs6 (h.below HB1.out)))
  have HW1 := Lib.hid hw1
  clear h hss hk1 hw1 e24
  go_enter Tryz.func19, Tryz.ntmps19
  go_upto_region 1 with fail
  rw [HW1.out]
  clear HW1
  go_wp2_with fail
  refine GA.out.mono ?_
  rintro e w2 ⟨rfl, hb⟩
  have HB2 := Lib.hid (HB1.out.trans (hb.mono HB1.out.size))
  clear hb
  go_wp2_with fail
  go_ret
  exact ⟨rfl, HB2.out⟩
theorem clo_f (nm : ByteArray) (cb : Nat) (B : Nat → Prop) (x : FileM) (cs : List Value) (w : World) (h : w.cell? ⟨cb, 0, none⟩ = some (.string nm)) (hR : EFile.R B w x cs) :
    Calls Tryz.prog 119 (#[.agg cs.toArray] ++ #[.pointer (some ⟨cb, 0, none⟩)]) w fun e w' => e = .returned (.bool (decide (x.path = nm))) ∧ Below w.heap.size w w' := by
  have hcs : cs = [.string x.path, .int .u64 (x.dig : Nat)] := hR
  subst hcs
  obtain ⟨W1, hW1⟩ : ∃ W1, w.alloc (.cells #[.string x.path, .int .u64 (x.dig : Nat)] 85 (0, 0)) = W1 := ⟨_, rfl⟩
  have hb1 : Below w.heap.size w W1 := by rw [← hW1]; exact (Below.refl _ w).alloc (Nat.le_refl _) _
  have c1 : W1.cell? ⟨cb, 0, none⟩ = some (.string nm) := (hb1.cell (p := ⟨cb, 0, none⟩) (World.block_lt_of_cell? w _ h)).trans h
  have c0 : W1.cell? ⟨w.heap.size, 0, none⟩ = some (.string x.path) := by rw [← hW1, cell_of_blk (hp_new rfl)]; rfl
  have HB := Lib.hid hb1
  have HT := Lib.hid (tl_eq x.path nm)
  clear hb1 h
  go_enter Tryz.func119, Tryz.ntmps119
  go_wp2_with fail
  go_ret
  exact ⟨ret_bool HT.out, HB.out⟩
theorem cloE_f : ∀ args w, (callFunc 119 args).run Tryz.prog w = .ok (.enter 119 args) w := enters_of Tryz.func119 (by kernel_rfl) rfl
theorem clo_o (nm : ByteArray) (cb : Nat) (B : Nat → Prop) (x : OutM) (cs : List Value) (w : World) (h : w.cell? ⟨cb, 0, none⟩ = some (.string nm)) (hR : EOut.R B w x cs) :
    Calls Tryz.prog 121 (#[.agg cs.toArray] ++ #[.pointer (some ⟨cb, 0, none⟩)]) w fun e w' => e = .returned (.bool (decide (x.name = nm))) ∧ Below w.heap.size w w' := by
  have hcs : cs = [.string x.name, .int .u64 (x.dig : Nat), .int .i64 x.size] := hR
  subst hcs
  obtain ⟨W1, hW1⟩ : ∃ W1, w.alloc (.cells #[.string x.name, .int .u64 (x.dig : Nat), .int .i64 x.size] 69 (0, 0)) = W1 := ⟨_, rfl⟩
  have hb1 : Below w.heap.size w W1 := by rw [← hW1]; exact (Below.refl _ w).alloc (Nat.le_refl _) _
  have c1 : W1.cell? ⟨cb, 0, none⟩ = some (.string nm) := (hb1.cell (p := ⟨cb, 0, none⟩) (World.block_lt_of_cell? w _ h)).trans h
  have c0 : W1.cell? ⟨w.heap.size, 0, none⟩ = some (.string x.name) := by rw [← hW1, cell_of_blk (hp_new rfl)]; rfl
  have HB := Lib.hid hb1
  have HT := Lib.hid (tl_eq x.name nm)
  clear hb1 h
  go_enter Tryz.func121, Tryz.ntmps121
  go_wp2_with fail
  go_ret
  exact ⟨ret_bool HT.out, HB.out⟩
theorem cloE_o : ∀ args w, (callFunc 121 args).run Tryz.prog w = .ok (.enter 121 args) w := enters_of Tryz.func121 (by kernel_rfl) rfl
theorem clo_s (nm : ByteArray) (cb : Nat) (B : Nat → Prop) (x : SecM) (cs : List Value) (w : World) (h : w.cell? ⟨cb, 0, none⟩ = some (.string nm)) (hR : ESec.R B w x cs) :
    Calls Tryz.prog 123 (#[.agg cs.toArray] ++ #[.pointer (some ⟨cb, 0, none⟩)]) w fun e w' => e = .returned (.bool (decide (x.name = nm))) ∧ Below w.heap.size w w' := by
  obtain ⟨ro, rc, eo, ec, rfl⟩ := sec_five hR
  obtain ⟨W1, hW1⟩ : ∃ W1, w.alloc (.cells #[.string x.name, .string x.text, .int .i64 x.level, .slice ro x.refs.length rc, .slice eo x.envs.length ec] 110 (0, 0)) = W1 := ⟨_, rfl⟩
  have hb1 : Below w.heap.size w W1 := by rw [← hW1]; exact (Below.refl _ w).alloc (Nat.le_refl _) _
  have c1 : W1.cell? ⟨cb, 0, none⟩ = some (.string nm) := (hb1.cell (p := ⟨cb, 0, none⟩) (World.block_lt_of_cell? w _ h)).trans h
  have c0 : W1.cell? ⟨w.heap.size, 0, none⟩ = some (.string x.name) := by rw [← hW1, cell_of_blk (hp_new rfl)]; rfl
  have HB := Lib.hid hb1
  have HT := Lib.hid (tl_eq x.name nm)
  clear hb1 h hR
  go_enter Tryz.func123, Tryz.ntmps123
  go_wp2_with fail
  go_ret
  exact ⟨ret_bool HT.out, HB.out⟩
theorem cloE_s : ∀ args w, (callFunc 123 args).run Tryz.prog w = .ok (.enter 123 args) w := enters_of Tryz.func123 (by kernel_rfl) rfl
theorem clo_t (nm : ByteArray) (cb : Nat) (B : Nat → Prop) (x : TimM) (cs : List Value) (w : World) (h : w.cell? ⟨cb, 0, none⟩ = some (.string nm)) (hR : ETim.R B w x cs) :
    Calls Tryz.prog 127 (#[.agg cs.toArray] ++ #[.pointer (some ⟨cb, 0, none⟩)]) w fun e w' => e = .returned (.bool (decide (x.name = nm))) ∧ Below w.heap.size w w' := by
  have hcs : cs = [.string x.name, .int .i64 x.time] := hR
  subst hcs
  obtain ⟨W1, hW1⟩ : ∃ W1, w.alloc (.cells #[.string x.name, .int .i64 x.time] 115 (0, 0)) = W1 := ⟨_, rfl⟩
  have hb1 : Below w.heap.size w W1 := by rw [← hW1]; exact (Below.refl _ w).alloc (Nat.le_refl _) _
  have c1 : W1.cell? ⟨cb, 0, none⟩ = some (.string nm) := (hb1.cell (p := ⟨cb, 0, none⟩) (World.block_lt_of_cell? w _ h)).trans h
  have c0 : W1.cell? ⟨w.heap.size, 0, none⟩ = some (.string x.name) := by rw [← hW1, cell_of_blk (hp_new rfl)]; rfl
  have HB := Lib.hid hb1
  have HT := Lib.hid (tl_eq x.name nm)
  clear hb1 h
  go_enter Tryz.func127, Tryz.ntmps127
  go_wp2_with fail
  go_ret
  exact ⟨ret_bool HT.out, HB.out⟩
theorem cloE_t : ∀ args w, (callFunc 127 args).run Tryz.prog w = .ok (.enter 127 args) w := enters_of Tryz.func127 (by kernel_rfl) rfl
theorem clo_e (nm : ByteArray) (cb : Nat) (B : Nat → Prop) (x : EntM) (cs : List Value) (w : World) (h : w.cell? ⟨cb, 0, none⟩ = some (.string nm)) (hR : EEnt.R B w x cs) :
    Calls Tryz.prog 125 (#[.agg cs.toArray] ++ #[.pointer (some ⟨cb, 0, none⟩)]) w fun e w' => e = .returned (.bool (decide (x.key = nm))) ∧ Below w.heap.size w w' := by
  have hcs : cs = [.string x.proj, .int .i64 x.trust, .string x.ref, .string x.key, .int .u64 (x.dig : Nat), .int .i64 x.size, .int .i64 x.created, .int .i64 x.used] := hR
  subst hcs
  obtain ⟨W1, hW1⟩ : ∃ W1, w.alloc (.cells #[.string x.proj, .int .i64 x.trust, .string x.ref, .string x.key, .int .u64 (x.dig : Nat), .int .i64 x.size, .int .i64 x.created, .int .i64 x.used] 76 (0, 0)) = W1 := ⟨_, rfl⟩
  have hb1 : Below w.heap.size w W1 := by rw [← hW1]; exact (Below.refl _ w).alloc (Nat.le_refl _) _
  have c1 : W1.cell? ⟨cb, 0, none⟩ = some (.string nm) := (hb1.cell (p := ⟨cb, 0, none⟩) (World.block_lt_of_cell? w _ h)).trans h
  have c0 : W1.cell? ⟨w.heap.size, 3, none⟩ = some (.string x.key) := by rw [← hW1, cell_of_blk (hp_new rfl)]; rfl
  have HB := Lib.hid hb1
  have HT := Lib.hid (tl_eq x.key nm)
  clear hb1 h
  go_enter Tryz.func125, Tryz.ntmps125
  go_wp2_with fail
  go_ret
  exact ⟨ret_bool HT.out, HB.out⟩
theorem cloE_e : ∀ args w, (callFunc 125 args).run Tryz.prog w = .ok (.enter 125 args) w := enters_of Tryz.func125 (by kernel_rfl) rfl
end Go.Proofs.YtghahghbahcpfaaGreatDoor
/- The walks over the execution's searches: file, artifact, text, timed. -/
namespace Go.Proofs.YtghahghbahcpfaaGreatDoor
open Go.RowKit

set_option maxRecDepth 100000 in
set_option maxHeartbeats 1600000 in
theorem file_any (nm : ByteArray) (xb : Nat) (L : List FileM) (v : Value) (B : Nat → Prop) (hl : L.length ≤ 9223372036854775807) (w : World) (hx : w.cell? ⟨xb, 39, none⟩ = some v) (h : EFile.Row B w L v) :
    Calls Tryz.prog 81 #[.pointer (some ⟨xb, 0, none⟩), .string nm] w (FirPost EFile [.string ⟨#[]⟩, .int .u64 0] (fun x => decide (x.path = nm)) L w) := by
  obtain ⟨ao, cap, rfl⟩ := h.form
  obtain ⟨w1, hw1⟩ : ∃ w1, w.alloc (.cells #[.string nm] 9 (0, 0)) = w1 := ⟨_, rfl⟩
  have hk1 : w1.heap[w.heap.size]? = some (.cells #[.string nm] 9 (0, 0)) := by rw [← hw1]; exact hp_new rfl
  have hz1 : w.heap.size < w1.heap.size := (Array.getElem?_eq_some_iff.1 hk1).1
  have hb1 : Below w.heap.size w w1 := by rw [← hw1]; exact (Below.refl _ w).alloc (Nat.le_refl _) _
  have hs1 : w1.heap.size = w.heap.size + 1 := by rw [← hw1]; simp
  obtain ⟨w2, hw2⟩ : ∃ w2, w1.alloc (.cells #[.string ⟨#[]⟩, .int .u64 0] 85 (0, 0)) = w2 := ⟨_, rfl⟩
  have hk2 : w2.heap[w1.heap.size]? = some (.cells #[.string ⟨#[]⟩, .int .u64 0] 85 (0, 0)) := by rw [← hw2]; exact hp_new rfl
  have hz2 : w1.heap.size < w2.heap.size := (Array.getElem?_eq_some_iff.1 hk2).1
  have hb2 : Below w1.heap.size w1 w2 := by rw [← hw2]; exact (Below.refl _ w1).alloc (Nat.le_refl _) _
  have hb02 := hb1.trans (hb2.mono hb1.size)
  have cx : w2.cell? ⟨xb, 39, none⟩ = some (.slice ao L.length cap) := (hb02.cell (p := ⟨xb, 39, none⟩) (World.block_lt_of_cell? w _ hx)).trans hx
  have cn : ∀ W, Below w2.heap.size w2 W → W.cell? ⟨w.heap.size, 0, none⟩ = some (.string nm) := fun W hb => cell_of_blk ((hb.block _ (Nat.lt_trans hz1 hz2)).trans ((hb2.block _ hz1).trans hk1)) 0
  have FI := Lib.hid (first_f 119 #[.pointer (some ⟨w.heap.size, 0, none⟩)] (fun x => decide (x.path = nm)) L _ B hl w2 (h.below hb02) (fun k hk cs W hb hR => clo_f nm w.heap.size B L[k] cs W (cn W hb) hR) cloE_f)
  have HW1 := Lib.hid hw1
  have HW2 := Lib.hid hw2
  have HK2 := Lib.hid hk2
  have HZ2 := Lib.hid hz2
  have HB02 := Lib.hid hb02
  have HZ1 := Lib.hid hz1
  have HS1 := Lib.hid hs1
  clear h hk1 hz1 hb1 hw1 hw2 hk2 hz2 hb2 cn hx hb02 hs1
  go_enter Tryz.func81, Tryz.ntmps81
  go_upto_region 1 with fail
  rw [HW1.out, HW2.out]
  clear HW1 HW2
  rw [HS1.out] at HK2 HZ2
  go_wp2_with fail
  refine FI.out.mono ?_
  rintro e w3 ⟨cs, rfl, hsome, hnone, hb⟩
  have HB3 := Lib.hid (HB02.out.trans (hb.mono HB02.out.size))
  have HK3 : Hid (w3.heap[w.heap.size + 1]? = some (.cells #[.string ⟨#[]⟩, .int .u64 0] 85 (0, 0))) := (hb.block _ HZ2.out).trans HK2.out
  have HSO := Lib.hid hsome
  have HNO := Lib.hid hnone
  clear hb FI hsome hnone cx
  cases hq : L.find? (fun x => decide (x.path = nm)) with
  | none =>
    have hcs := HNO.out hq
    subst hcs
    have HQ := Lib.hid hq
    clear hq HNO HSO
    as_aux_lemma =>
    go_wp2_with (refine wpList_store_row rfl 85 _ _ rfl (w.heap.size + 1) rfl 85 _ HK3.out (.agg #[.string ⟨#[]⟩, .int .u64 0]) rfl (by kernel_rfl) rfl rfl ?_)
    intro w9 hw9
    have HW9 := Lib.hid hw9
    clear hw9
    go_wp2_with fail
    refine bodyPost_ret (results_row_tmp rfl _ _ (w.heap.size + 1) 85 _ (0, 0) _ rfl HW9.out.at_ Tryz.underlying85 rfl (by kernel_rfl)) rfl ⟨[.string ⟨#[]⟩, .int .u64 0], by rw [HQ.out] <;> rfl, fun y hy => (by rw [HQ.out] at hy; cases hy), fun _ => rfl, HB3.out.trans (HW9.out.below (by omega))⟩
  | some x =>
    have hcs : cs = [.string x.path, .int .u64 (x.dig : Nat)] := HSO.out x hq
    subst hcs
    have HQ := Lib.hid hq
    clear hq HNO HSO
    as_aux_lemma =>
    go_wp2_with (refine wpList_store_row rfl 85 _ _ rfl (w.heap.size + 1) rfl 85 _ HK3.out (.agg #[.string x.path, .int .u64 (x.dig : Nat)]) rfl (by kernel_rfl) rfl rfl ?_)
    intro w9 hw9
    have HW9 := Lib.hid hw9
    clear hw9
    go_wp2_with fail
    refine bodyPost_ret (results_row_tmp rfl _ _ (w.heap.size + 1) 85 _ (0, 0) _ rfl HW9.out.at_ Tryz.underlying85 rfl (by kernel_rfl)) rfl ⟨[.string x.path, .int .u64 (x.dig : Nat)], by rw [HQ.out] <;> rfl, fun y hy => (by rw [HQ.out] at hy; injection hy with hy; subst hy; rfl), fun hy => (by rw [HQ.out] at hy; cases hy), HB3.out.trans (HW9.out.below (by omega))⟩
set_option maxRecDepth 100000 in
set_option maxHeartbeats 1600000 in
theorem artifact_any (nm : ByteArray) (xb : Nat) (L : List OutM) (v : Value) (B : Nat → Prop) (hl : L.length ≤ 9223372036854775807) (w : World) (hx : w.cell? ⟨xb, 40, none⟩ = some v) (h : EOut.Row B w L v) :
    Calls Tryz.prog 84 #[.pointer (some ⟨xb, 0, none⟩), .string nm] w (FirPost EOut [.string ⟨#[]⟩, .int .u64 0, .int .i64 0] (fun x => decide (x.name = nm)) L w) := by
  obtain ⟨ao, cap, rfl⟩ := h.form
  obtain ⟨w1, hw1⟩ : ∃ w1, w.alloc (.cells #[.string nm] 9 (0, 0)) = w1 := ⟨_, rfl⟩
  have hk1 : w1.heap[w.heap.size]? = some (.cells #[.string nm] 9 (0, 0)) := by rw [← hw1]; exact hp_new rfl
  have hz1 : w.heap.size < w1.heap.size := (Array.getElem?_eq_some_iff.1 hk1).1
  have hb1 : Below w.heap.size w w1 := by rw [← hw1]; exact (Below.refl _ w).alloc (Nat.le_refl _) _
  have hs1 : w1.heap.size = w.heap.size + 1 := by rw [← hw1]; simp
  obtain ⟨w2, hw2⟩ : ∃ w2, w1.alloc (.cells #[.string ⟨#[]⟩, .int .u64 0, .int .i64 0] 69 (0, 0)) = w2 := ⟨_, rfl⟩
  have hk2 : w2.heap[w1.heap.size]? = some (.cells #[.string ⟨#[]⟩, .int .u64 0, .int .i64 0] 69 (0, 0)) := by rw [← hw2]; exact hp_new rfl
  have hz2 : w1.heap.size < w2.heap.size := (Array.getElem?_eq_some_iff.1 hk2).1
  have hb2 : Below w1.heap.size w1 w2 := by rw [← hw2]; exact (Below.refl _ w1).alloc (Nat.le_refl _) _
  have hb02 := hb1.trans (hb2.mono hb1.size)
  have cx : w2.cell? ⟨xb, 40, none⟩ = some (.slice ao L.length cap) := (hb02.cell (p := ⟨xb, 40, none⟩) (World.block_lt_of_cell? w _ hx)).trans hx
  have cn : ∀ W, Below w2.heap.size w2 W → W.cell? ⟨w.heap.size, 0, none⟩ = some (.string nm) := fun W hb => cell_of_blk ((hb.block _ (Nat.lt_trans hz1 hz2)).trans ((hb2.block _ hz1).trans hk1)) 0
  have FI := Lib.hid (first_o 121 #[.pointer (some ⟨w.heap.size, 0, none⟩)] (fun x => decide (x.name = nm)) L _ B hl w2 (h.below hb02) (fun k hk cs W hb hR => clo_o nm w.heap.size B L[k] cs W (cn W hb) hR) cloE_o)
  have HW1 := Lib.hid hw1
  have HW2 := Lib.hid hw2
  have HK2 := Lib.hid hk2
  have HZ2 := Lib.hid hz2
  have HB02 := Lib.hid hb02
  have HZ1 := Lib.hid hz1
  have HS1 := Lib.hid hs1
  clear h hk1 hz1 hb1 hw1 hw2 hk2 hz2 hb2 cn hx hb02 hs1
  go_enter Tryz.func84, Tryz.ntmps84
  go_upto_region 1 with fail
  rw [HW1.out, HW2.out]
  clear HW1 HW2
  rw [HS1.out] at HK2 HZ2
  go_wp2_with fail
  refine FI.out.mono ?_
  rintro e w3 ⟨cs, rfl, hsome, hnone, hb⟩
  have HB3 := Lib.hid (HB02.out.trans (hb.mono HB02.out.size))
  have HK3 : Hid (w3.heap[w.heap.size + 1]? = some (.cells #[.string ⟨#[]⟩, .int .u64 0, .int .i64 0] 69 (0, 0))) := (hb.block _ HZ2.out).trans HK2.out
  have HSO := Lib.hid hsome
  have HNO := Lib.hid hnone
  clear hb FI hsome hnone cx
  cases hq : L.find? (fun x => decide (x.name = nm)) with
  | none =>
    have hcs := HNO.out hq
    subst hcs
    have HQ := Lib.hid hq
    clear hq HNO HSO
    as_aux_lemma =>
    go_wp2_with (refine wpList_store_row rfl 69 _ _ rfl (w.heap.size + 1) rfl 69 _ HK3.out (.agg #[.string ⟨#[]⟩, .int .u64 0, .int .i64 0]) rfl (by kernel_rfl) rfl rfl ?_)
    intro w9 hw9
    have HW9 := Lib.hid hw9
    clear hw9
    go_wp2_with fail
    refine bodyPost_ret (results_row_tmp rfl _ _ (w.heap.size + 1) 69 _ (0, 0) _ rfl HW9.out.at_ Tryz.underlying69 rfl (by kernel_rfl)) rfl ⟨[.string ⟨#[]⟩, .int .u64 0, .int .i64 0], by rw [HQ.out] <;> rfl, fun y hy => (by rw [HQ.out] at hy; cases hy), fun _ => rfl, HB3.out.trans (HW9.out.below (by omega))⟩
  | some x =>
    have hcs : cs = [.string x.name, .int .u64 (x.dig : Nat), .int .i64 x.size] := HSO.out x hq
    subst hcs
    have HQ := Lib.hid hq
    clear hq HNO HSO
    as_aux_lemma =>
    go_wp2_with (refine wpList_store_row rfl 69 _ _ rfl (w.heap.size + 1) rfl 69 _ HK3.out (.agg #[.string x.name, .int .u64 (x.dig : Nat), .int .i64 x.size]) rfl (by kernel_rfl) rfl rfl ?_)
    intro w9 hw9
    have HW9 := Lib.hid hw9
    clear hw9
    go_wp2_with fail
    refine bodyPost_ret (results_row_tmp rfl _ _ (w.heap.size + 1) 69 _ (0, 0) _ rfl HW9.out.at_ Tryz.underlying69 rfl (by kernel_rfl)) rfl ⟨[.string x.name, .int .u64 (x.dig : Nat), .int .i64 x.size], by rw [HQ.out] <;> rfl, fun y hy => (by rw [HQ.out] at hy; injection hy with hy; subst hy; rfl), fun hy => (by rw [HQ.out] at hy; cases hy), HB3.out.trans (HW9.out.below (by omega))⟩
end Go.Proofs.YtghahghbahcpfaaGreatDoor
/- The walks over num.Add, num.Limit and the execution's text and timed. -/
namespace Go.Proofs.YtghahghbahcpfaaGreatDoor
open Go.RowKit

theorem end_any (b : Bool) (w : World) : Calls Tryz.prog 86 #[.bool b] w fun e w' => e = .returned (.int .i64 (if b = true then -9223372036854775808 else 9223372036854775807)) ∧ w' = w := by
  cases b <;>
  · go_enter Tryz.func86, Tryz.ntmps86
    go_wp2
    go_ret
    exact ⟨rfl, rfl⟩
theorem limit_any (n : Int) (w : World) : Calls Tryz.prog 89 #[.int .i64 n, .int .i64 0, .int .i64 1125899906842624] w fun e w' => e = .returned (.int .i64 (limI n)) ∧ w' = w := by
  go_enter Tryz.func89, Tryz.ntmps89
  go_wp2_with fail
  go_ret
  exact ⟨rfl, rfl⟩
theorem wrap_hi {s : Int} (h1 : 9223372036854775807 < s) (h2 : s ≤ 18446744073709551614) : IntKind.i64.wrap s = s - 18446744073709551616 := by
  have : IntKind.i64.wrap s = (s + 9223372036854775808) % 18446744073709551616 - 9223372036854775808 := by simp [IntKind.wrap, IntKind.bits, IntKind.signed]; omega
  omega
theorem wrap_lo {s : Int} (h1 : s < -9223372036854775808) (h2 : -18446744073709551616 ≤ s) : IntKind.i64.wrap s = s + 18446744073709551616 := by
  have : IntKind.i64.wrap s = (s + 9223372036854775808) % 18446744073709551616 - 9223372036854775808 := by simp [IntKind.wrap, IntKind.bits, IntKind.signed]; omega
  omega
def i64R (z : Int) : Prop := -9223372036854775808 ≤ z ∧ z ≤ 9223372036854775807
theorem addI_r (a b : Int) : i64R (addI a b) := by unfold i64R addI; omega
set_option maxRecDepth 100000 in
set_option maxHeartbeats 1600000 in
theorem add_any (a b : Int) (ha : i64R a) (hb : i64R b) (w : World) : Calls Tryz.prog 60 #[.int .i64 a, .int .i64 b] w fun e w' => e = .returned (.int .i64 (addI a b)) ∧ w' = w := by
  obtain ⟨ha1, ha2⟩ := ha
  obtain ⟨hb1, hb2⟩ := hb
  obtain ⟨s, hs⟩ : ∃ s, IntKind.i64.wrap (a + b) = s := ⟨_, rfl⟩
  by_cases h1 : 9223372036854775807 < a + b
  · have e := wrap_hi h1 (by omega)
    have EN := Lib.hid (end_any false w)
    have HA : Hid (addI a b = 9223372036854775807) := by unfold Hid addI; omega
    have hsn : s < 0 := by omega
    have hsb : decide (s < 0) = true := decide_eq_true hsn
    have ha0 : ¬ a < 0 := by omega
    have hb0 : ¬ b < 0 := by omega
    have hab : decide (a < 0) = false := decide_eq_false ha0
    have hbb : decide (b < 0) = false := decide_eq_false hb0
    clear e h1 ha1 ha2 hb1 hb2
    go_enter Tryz.func60, Tryz.ntmps60
    go_wp2_with fail
    refine EN.out.mono ?_
    rintro e w2 ⟨rfl, rfl⟩
    go_wp2_with fail
    go_ret
    exact ⟨ret_int HA.out.symm, rfl⟩
  · by_cases h2 : a + b < -9223372036854775808
    · have e := wrap_lo h2 (by omega)
      have EN := Lib.hid (end_any true w)
      have HA : Hid (addI a b = -9223372036854775808) := by unfold Hid addI; omega
      have hsn : ¬ s < 0 := by omega
      have hsb : decide (s < 0) = false := decide_eq_false hsn
      have ha0 : a < 0 := by omega
      have hb0 : b < 0 := by omega
      have hab : decide (a < 0) = true := decide_eq_true ha0
      have hbb : decide (b < 0) = true := decide_eq_true hb0
      clear e h1 h2 ha1 ha2 hb1 hb2
      go_enter Tryz.func60, Tryz.ntmps60
      go_wp2_with fail
      refine EN.out.mono ?_
      rintro e w2 ⟨rfl, rfl⟩
      go_wp2_with fail
      go_ret
      exact ⟨ret_int HA.out.symm, rfl⟩
    · have e : IntKind.i64.wrap (a + b) = a + b := IntWalk.i64_in _ (by omega)
      have HA : Hid (addI a b = s) := by unfold Hid addI; omega
      by_cases hsig : a < 0 ↔ b < 0
      · have hsg : decide (s < 0) = decide (a < 0) := by
          rw [decide_eq_decide]
          omega
        clear e h1 h2 ha1 ha2 hb1 hb2
        go_enter Tryz.func60, Tryz.ntmps60
        go_wp2_with fail
        all_goals (go_ret; exact ⟨ret_int HA.out.symm, rfl⟩)
      · clear e h1 h2 ha1 ha2 hb1 hb2
        go_enter Tryz.func60, Tryz.ntmps60
        go_wp2_with fail
        all_goals (go_ret; exact ⟨ret_int HA.out.symm, rfl⟩)
/-- the text of a secret that was found -/
def txtF (o : Option SecM) : ByteArray := match o with
  | none => ⟨#[]⟩
  | some s => s.text
set_option maxRecDepth 100000 in
set_option maxHeartbeats 1600000 in
theorem text_any (nm : ByteArray) (xb : Nat) (L : List SecM) (v : Value) (B : Nat → Prop) (hl : L.length ≤ 9223372036854775807) (w : World) (hx : w.cell? ⟨xb, 41, none⟩ = some v) (h : ESec.Row B w L v) :
    Calls Tryz.prog 85 #[.pointer (some ⟨xb, 0, none⟩), .string nm] w fun e w' => e = .returned (.tuple #[.string (txtF (L.find? fun x => decide (x.name = nm))), .bool (L.find? fun x => decide (x.name = nm)).isSome]) ∧ Below w.heap.size w w' := by
  obtain ⟨ao, cap, rfl⟩ := h.form
  obtain ⟨w1, hw1⟩ : ∃ w1, w.alloc (.cells #[.string nm] 9 (0, 0)) = w1 := ⟨_, rfl⟩
  have hk1 : w1.heap[w.heap.size]? = some (.cells #[.string nm] 9 (0, 0)) := by rw [← hw1]; exact hp_new rfl
  have hz1 : w.heap.size < w1.heap.size := (Array.getElem?_eq_some_iff.1 hk1).1
  have hb1 : Below w.heap.size w w1 := by rw [← hw1]; exact (Below.refl _ w).alloc (Nat.le_refl _) _
  have cx : w1.cell? ⟨xb, 41, none⟩ = some (.slice ao L.length cap) := (hb1.cell (p := ⟨xb, 41, none⟩) (World.block_lt_of_cell? w _ hx)).trans hx
  have cn : ∀ W, Below w1.heap.size w1 W → W.cell? ⟨w.heap.size, 0, none⟩ = some (.string nm) := fun W hb => cell_of_blk ((hb.block _ hz1).trans hk1) 0
  have FI := Lib.hid (first_s 123 #[.pointer (some ⟨w.heap.size, 0, none⟩)] (fun x => decide (x.name = nm)) L _ B hl w1 (h.below hb1) (fun k hk cs W hb hR => clo_s nm w.heap.size B L[k] cs W (cn W hb) hR) cloE_s)
  have HW1 := Lib.hid hw1
  have HB1 := Lib.hid hb1
  clear h hk1 hz1 hb1 hw1 cn hx
  go_enter Tryz.func85, Tryz.ntmps85
  go_upto_region 1 with fail
  rw [HW1.out]
  clear HW1
  go_wp2_with fail
  refine FI.out.mono ?_
  rintro e w3 ⟨cs, rfl, hsome, hnone, hb⟩
  have HB3 := Lib.hid (HB1.out.trans (hb.mono HB1.out.size))
  have HSO := Lib.hid hsome
  have HNO := Lib.hid hnone
  have hz3 := HB3.out.size
  clear hb FI hsome hnone cx
  cases hq : L.find? (fun x => decide (x.name = nm)) with
  | none =>
    have hcs := HNO.out hq
    subst hcs
    have HQ := Lib.hid hq
    clear hq HNO HSO
    as_aux_lemma =>
    go_wp2_with (refine wpList_store_row rfl 110 _ _ rfl w3.heap.size rfl 110 _ (hp_new rfl) (.agg #[.string ⟨#[]⟩, .string ⟨#[]⟩, .int .i64 0, .slice none 0 0, .slice none 0 0]) rfl (by kernel_rfl) rfl rfl ?_)
    intro w9 hw9
    have HW9 := Lib.hid hw9
    have HB9 : Hid (Below w.heap.size w w9) := (HB3.out.alloc hz3 _).trans (hw9.below hz3)
    have y1 := cell_of_blk hw9.at_ 1
    clear hw9
    go_wp2_with fail
    go_ret2
    exact ⟨by rw [HQ.out] <;> rfl, HB9.out⟩
  | some x =>
    obtain ⟨ro, rc, eo, ec, hcs⟩ := sec_five (HSO.out x hq)
    subst hcs
    have HQ := Lib.hid hq
    clear hq HNO HSO
    as_aux_lemma =>
    go_wp2_with (refine wpList_store_row rfl 110 _ _ rfl w3.heap.size rfl 110 _ (hp_new rfl) (.agg #[.string x.name, .string x.text, .int .i64 x.level, .slice ro x.refs.length rc, .slice eo x.envs.length ec]) rfl (by kernel_rfl) rfl rfl ?_)
    intro w9 hw9
    have HW9 := Lib.hid hw9
    have HB9 : Hid (Below w.heap.size w w9) := (HB3.out.alloc hz3 _).trans (hw9.below hz3)
    have y1 := cell_of_blk hw9.at_ 1
    clear hw9
    go_wp2_with fail
    go_ret2
    exact ⟨by rw [HQ.out] <;> rfl, HB9.out⟩
def timF (o : Option TimM) : Int := match o with
  | none => 10
  | some t => limI t.time
set_option maxRecDepth 100000 in
set_option maxHeartbeats 1600000 in
theorem timed_any (nm : ByteArray) (xb : Nat) (L : List TimM) (v : Value) (B : Nat → Prop) (hl : L.length ≤ 9223372036854775807) (w : World) (hx : w.cell? ⟨xb, 45, none⟩ = some v) (h : ETim.Row B w L v) :
    Calls Tryz.prog 88 #[.pointer (some ⟨xb, 0, none⟩), .string nm] w fun e w' => e = .returned (.int .i64 (timF (L.find? fun x => decide (x.name = nm)))) ∧ Below w.heap.size w w' := by
  obtain ⟨ao, cap, rfl⟩ := h.form
  obtain ⟨w1, hw1⟩ : ∃ w1, w.alloc (.cells #[.string nm] 9 (0, 0)) = w1 := ⟨_, rfl⟩
  have hk1 : w1.heap[w.heap.size]? = some (.cells #[.string nm] 9 (0, 0)) := by rw [← hw1]; exact hp_new rfl
  have hz1 : w.heap.size < w1.heap.size := (Array.getElem?_eq_some_iff.1 hk1).1
  have hb1 : Below w.heap.size w w1 := by rw [← hw1]; exact (Below.refl _ w).alloc (Nat.le_refl _) _
  have cx : w1.cell? ⟨xb, 45, none⟩ = some (.slice ao L.length cap) := (hb1.cell (p := ⟨xb, 45, none⟩) (World.block_lt_of_cell? w _ hx)).trans hx
  have cn : ∀ W, Below w1.heap.size w1 W → W.cell? ⟨w.heap.size, 0, none⟩ = some (.string nm) := fun W hb => cell_of_blk ((hb.block _ hz1).trans hk1) 0
  have FI := Lib.hid (first_t 127 #[.pointer (some ⟨w.heap.size, 0, none⟩)] (fun x => decide (x.name = nm)) L _ B hl w1 (h.below hb1) (fun k hk cs W hb hR => clo_t nm w.heap.size B L[k] cs W (cn W hb) hR) cloE_t)
  have HW1 := Lib.hid hw1
  have HB1 := Lib.hid hb1
  clear h hk1 hz1 hb1 hw1 cn hx
  go_enter Tryz.func88, Tryz.ntmps88
  go_upto_region 1 with fail
  rw [HW1.out]
  clear HW1
  go_wp2_with fail
  refine FI.out.mono ?_
  rintro e w3 ⟨cs, rfl, hsome, hnone, hb⟩
  have HB3 := Lib.hid (HB1.out.trans (hb.mono HB1.out.size))
  have HSO := Lib.hid hsome
  have HNO := Lib.hid hnone
  have hz3 := HB3.out.size
  clear hb FI hsome hnone cx
  cases hq : L.find? (fun x => decide (x.name = nm)) with
  | none =>
    have hcs := HNO.out hq
    subst hcs
    have HQ := Lib.hid hq
    clear hq HNO HSO
    as_aux_lemma =>
    go_wp2_with (refine wpList_store_row rfl 115 _ _ rfl w3.heap.size rfl 115 _ (hp_new rfl) (.agg #[.string ⟨#[]⟩, .int .i64 0]) rfl (by kernel_rfl) rfl rfl ?_)
    intro w9 hw9
    have HW9 := Lib.hid hw9
    have HB9 : Hid (Below w.heap.size w w9) := (HB3.out.alloc hz3 _).trans (hw9.below hz3)
    clear hw9
    go_wp2_with fail
    go_ret
    exact ⟨by rw [HQ.out] <;> rfl, HB9.out⟩
  | some x =>
    have hcs : cs = [.string x.name, .int .i64 x.time] := HSO.out x hq
    subst hcs
    have LM := fun w => Lib.hid (limit_any x.time w)
    have HQ := Lib.hid hq
    clear hq HNO HSO
    as_aux_lemma =>
    go_wp2_with (refine wpList_store_row rfl 115 _ _ rfl w3.heap.size rfl 115 _ (hp_new rfl) (.agg #[.string x.name, .int .i64 x.time]) rfl (by kernel_rfl) rfl rfl ?_)
    intro w9 hw9
    have HW9 := Lib.hid hw9
    have HB9 : Hid (Below w.heap.size w w9) := (HB3.out.alloc hz3 _).trans (hw9.below hz3)
    have y1 := cell_of_blk hw9.at_ 1
    clear hw9
    go_wp2_with fail
    refine (LM _).out.mono ?_
    rintro e w5 ⟨rfl, rfl⟩
    go_wp2_with fail
    go_ret
    exact ⟨by rw [HQ.out] <;> rfl, HB9.out⟩
end Go.Proofs.YtghahghbahcpfaaGreatDoor
