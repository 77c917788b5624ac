/- Plain laws on orders: orders that give -1, 0 or 1; one after the other; on lists; natural order on byte strings. No program in sight. -/
import Derived.Test.YtngbjnjkcniabaaGreatDoorIdent1
namespace Go.Proofs.YtngbjnjkcniabaaGreatDoor
open Go.RowKit

structure PO {α : Type} (C : α → α → Int) : Prop where
  rng : ∀ x y, C x y = -1 ∨ C x y = 0 ∨ C x y = 1
  anti : ∀ x y, C y x = - C x y
  trans : ∀ x y z, C x y ≤ 0 → C y z ≤ 0 → C x z ≤ 0

section
variable {α β : Type} {C D : α → α → Int}
theorem PO.refl (h : PO C) (x : α) : C x x = 0 := by have := h.anti x x; omega
theorem PO.eq_eq (h : PO C) {x y : α} (e : C x y = 0) (z : α) : C x z = C y z := by
  have a1 := h.trans x y z
  have a2 := h.trans y x z
  have a3 := h.trans z y x
  have a4 := h.trans z x y
  have b1 := h.anti x y
  have b2 := h.anti x z
  have b3 := h.anti y z
  have r1 := h.rng x z
  have r2 := h.rng y z
  omega
theorem PO.lt_le (h : PO C) {x y z : α} (h1 : C x y < 0) (h2 : C y z ≤ 0) : C x z < 0 := by
  have a1 := h.trans x y z
  have a2 := h.trans y z x
  have b1 := h.anti x y
  have b2 := h.anti x z
  omega
theorem PO.le_lt (h : PO C) {x y z : α} (h1 : C x y ≤ 0) (h2 : C y z < 0) : C x z < 0 := by
  have a1 := h.trans x y z
  have a2 := h.trans z x y
  have b1 := h.anti y z
  have b2 := h.anti x z
  omega

def thenC (C D : α → α → Int) (x y : α) : Int := if C x y = 0 then D x y else C x y
theorem PO.thenC (h : PO C) (k : PO D) : PO (thenC C D) where
  rng x y := by unfold YtngbjnjkcniabaaGreatDoor.thenC; split; exact k.rng x y; exact h.rng x y
  anti x y := by
    have := h.anti x y
    unfold YtngbjnjkcniabaaGreatDoor.thenC
    by_cases e : C x y = 0
    · rw [if_pos e, if_pos (by omega)]; exact k.anti x y
    · rw [if_neg e, if_neg (by omega)]; exact this
  trans x y z h1 h2 := by
    unfold YtngbjnjkcniabaaGreatDoor.thenC at *
    by_cases e1 : C x y = 0
    · rw [if_pos e1] at h1
      rw [h.eq_eq e1 z]
      by_cases e2 : C y z = 0
      · rw [if_pos e2] at h2 ⊢
        exact k.trans x y z h1 h2
      · rw [if_neg e2] at h2 ⊢; exact h2
    · rw [if_neg e1] at h1
      have h3 : C y z ≤ 0 := by
        by_cases e2 : C y z = 0
        · omega
        · rwa [if_neg e2] at h2
      have := h.lt_le (show C x y < 0 by omega) h3
      rw [if_neg (by omega)]; omega

theorem PO.comp (h : PO C) (f : β → α) : PO (fun x y => C (f x) (f y)) where
  rng _ _ := h.rng _ _
  anti _ _ := h.anti _ _
  trans _ _ _ := h.trans _ _ _

def lexC (C : α → α → Int) : List α → List α → Int
  | [], [] => 0
  | [], _ :: _ => -1
  | _ :: _, [] => 1
  | x :: xs, y :: ys => if C x y = 0 then lexC C xs ys else C x y

theorem lexC_rng (h : PO C) : ∀ xs ys, lexC C xs ys = -1 ∨ lexC C xs ys = 0 ∨ lexC C xs ys = 1
  | [], [] => by simp [lexC]
  | [], _ :: _ => by simp [lexC]
  | _ :: _, [] => by simp [lexC]
  | x :: xs, y :: ys => by
    rw [lexC]
    split
    · exact lexC_rng h xs ys
    · exact h.rng x y
theorem lexC_anti (h : PO C) : ∀ xs ys, lexC C ys xs = - lexC C xs ys
  | [], [] => by simp [lexC]
  | [], _ :: _ => by simp [lexC]
  | _ :: _, [] => by simp [lexC]
  | x :: xs, y :: ys => by
    have := h.anti x y
    rw [lexC, lexC]
    by_cases e : C x y = 0
    · rw [if_pos e, if_pos (by omega)]; exact lexC_anti h xs ys
    · rw [if_neg e, if_neg (by omega)]; exact this
theorem lexC_trans (h : PO C) : ∀ xs ys zs, lexC C xs ys ≤ 0 → lexC C ys zs ≤ 0 → lexC C xs zs ≤ 0
  | [], _, [], _, _ => by simp [lexC]
  | [], _, _ :: _, _, _ => by simp [lexC]
  | _ :: _, [], _, h1, _ => by simp [lexC] at h1
  | _ :: _, _ :: _, [], _, h2 => by simp [lexC] at h2
  | x :: xs, y :: ys, z :: zs, h1, h2 => by
    rw [lexC] at *
    by_cases e1 : C x y = 0
    · rw [if_pos e1] at h1
      rw [h.eq_eq e1 z]
      by_cases e2 : C y z = 0
      · rw [if_pos e2] at h2 ⊢
        exact lexC_trans h xs ys zs h1 h2
      · rw [if_neg e2] at h2 ⊢; exact h2
    · rw [if_neg e1] at h1
      have h3 : C y z ≤ 0 := by
        by_cases e2 : C y z = 0
        · omega
        · rwa [if_neg e2] at h2
      have := h.lt_le (show C x y < 0 by omega) h3
      rw [if_neg (by omega)]; omega
theorem PO.lex (h : PO C) : PO (lexC C) := ⟨lexC_rng h, lexC_anti h, lexC_trans h⟩
theorem lexC_eq (P : α → Prop) (he : ∀ x y, P x → P y → C x y = 0 → x = y) : ∀ xs ys, (∀ x ∈ xs, P x) → (∀ y ∈ ys, P y) → lexC C xs ys = 0 → xs = ys
  | [], [], _, _, _ => rfl
  | [], _ :: _, _, _, h => by simp [lexC] at h
  | _ :: _, [], _, _, h => by simp [lexC] at h
  | x :: xs, y :: ys, hx, hy, h => by
    rw [lexC] at h
    by_cases e : C x y = 0
    · rw [if_pos e] at h
      rw [he x y (hx x (List.mem_cons_self ..)) (hy y (List.mem_cons_self ..)) e, lexC_eq P he xs ys (fun a ha => hx a (List.mem_cons_of_mem _ ha)) (fun a ha => hy a (List.mem_cons_of_mem _ ha)) h]
    · rw [if_neg e] at h; exact absurd h e
end

/-- the order of numbers -/
def cmpN (x y : Nat) : Int := if x < y then -1 else if y < x then 1 else 0
theorem cmpN_po : PO cmpN where
  rng x y := by unfold cmpN; (repeat' split) <;> simp
  anti x y := by unfold cmpN; (repeat' split) <;> omega
  trans x y z := by unfold cmpN; (repeat' split) <;> omega
theorem cmpN_eq {x y : Nat} (h : cmpN x y = 0) : x = y := by unfold cmpN at h; (repeat' split at h) <;> omega

/-- the order of byte strings -/
def cmpB (c d : UInt8) : Int := cmpN c.toNat d.toNat
def cmpS : List UInt8 → List UInt8 → Int := lexC cmpB
theorem cmpS_po : PO cmpS := (cmpN_po.comp UInt8.toNat).lex
theorem cmpS_eq {x y : List UInt8} (h : cmpS x y = 0) : x = y :=
  lexC_eq (fun _ => True) (fun _ _ _ _ e => UInt8.toNat_inj.1 (cmpN_eq e)) x y (fun _ _ => trivial) (fun _ _ => trivial) h
theorem cmpS_lt : ∀ x y : List UInt8, cmpS x y = -1 ↔ x < y
  | [], [] => by simp [cmpS, lexC]
  | [], _ :: _ => by simp [cmpS, lexC]
  | _ :: _, [] => by simp [cmpS, lexC]
  | c :: x, d :: y => by
    have ih := cmpS_lt x y
    rw [List.cons_lt_cons_iff, ← ih]
    unfold cmpS
    rw [lexC]
    have e1 : c < d ↔ c.toNat < d.toNat := UInt8.lt_iff_toNat_lt
    have e2 : c = d ↔ c.toNat = d.toNat := UInt8.toNat_inj.symm
    rw [e1, e2]
    unfold cmpB cmpN
    by_cases h1 : c.toNat < d.toNat
    · simp [h1]
    · by_cases h2 : d.toNat < c.toNat
      · simp [h1, h2]; omega
      · have h3 : c.toNat = d.toNat := by omega
        simp [h3]

/-- a run without its leading zeros -/
def stripF (x : List UInt8) : List UInt8 := x.dropWhile (· == 48)
def numF : List UInt8 → List UInt8 → Int :=
  thenC (fun x y => cmpN (stripF x).length (stripF y).length) (thenC (fun x y => cmpS (stripF x) (stripF y)) (fun x y => cmpN x.length y.length))
theorem numF_po : PO numF := (cmpN_po.comp fun x => (stripF x).length).thenC ((cmpS_po.comp stripF).thenC (cmpN_po.comp List.length))
theorem thenC_zero {α : Type} {C D : α → α → Int} {x y : α} (h : thenC C D x y = 0) : C x y = 0 ∧ D x y = 0 := by
  unfold thenC at h
  by_cases e : C x y = 0
  · rw [if_pos e] at h; exact ⟨e, h⟩
  · rw [if_neg e] at h; exact absurd h e
theorem strip_split : ∀ x : List UInt8, x = List.replicate (x.length - (stripF x).length) 48 ++ stripF x ∧ (stripF x).length ≤ x.length
  | [] => by simp [stripF]
  | c :: r => by
    obtain ⟨h1, h2⟩ := strip_split r
    by_cases hc : c = 48
    · subst hc
      have e : stripF (48 :: r) = stripF r := by unfold stripF; rw [List.dropWhile_cons, if_pos (by decide)]
      rw [e]
      refine ⟨?_, by rw [List.length_cons]; omega⟩
      rw [List.length_cons, show r.length + 1 - (stripF r).length = (r.length - (stripF r).length) + 1 by omega, List.replicate_succ, List.cons_append, ← h1]
    · have e : stripF (c :: r) = c :: r := by unfold stripF; rw [List.dropWhile_cons, if_neg (by simpa using hc)]
      rw [e]
      exact ⟨by simp, Nat.le_refl _⟩
theorem numF_eq {x y : List UInt8} (h : numF x y = 0) : x = y := by
  obtain ⟨_, h2⟩ := thenC_zero h
  obtain ⟨h2, h3⟩ := thenC_zero h2
  have e2 := cmpS_eq h2
  have e3 := cmpN_eq h3
  rw [(strip_split x).1, (strip_split y).1, e2, e3]

/-- the class of a token, and its digits -/
def clsT (x : List UInt8) : Nat := if digF (x.headD 0) then 48 else (x.headD 0).toNat
def digT (x : List UInt8) : List UInt8 := if digF (x.headD 0) then x else []
def tokC : List UInt8 → List UInt8 → Int := thenC (fun x y => cmpN (clsT x) (clsT y)) (fun x y => numF (digT x) (digT y))
theorem tokC_po : PO tokC := (cmpN_po.comp clsT).thenC (numF_po.comp digT)

def tokP (x : List UInt8) : Prop := digF (x.headD 0) = true ∨ ∃ c, x = [c] ∧ digF c = false
theorem digF_48 : ∀ c : UInt8, digF c = false → c.toNat ≠ 48 := by
  intro c h h2
  unfold digF at h
  rw [h2] at h
  exact absurd h (by decide)
theorem tokC_eq (x y : List UInt8) (hx : tokP x) (hy : tokP y) (h : tokC x y = 0) : x = y := by
  obtain ⟨h1, h2⟩ := thenC_zero h
  have e1 := cmpN_eq h1
  have e2 := numF_eq h2
  unfold clsT digT at *
  rcases hx with hx | ⟨c, rfl, hc⟩ <;> rcases hy with hy | ⟨d, rfl, hd⟩
  · rw [if_pos hx, if_pos hy] at e2; exact e2
  · rw [if_pos hx] at e1
    simp [hd] at e1
    exact absurd e1.symm (digF_48 d hd)
  · rw [if_pos hy] at e1
    simp [hc] at e1
    exact absurd e1 (digF_48 c hc)
  · simp [hc, hd] at e1
    rw [UInt8.toNat_inj.1 e1]

/-- the tokens of a string: runs of digits and single bytes -/
def tokTo : Nat → List UInt8 → List (List UInt8)
  | 0, _ => []
  | _ + 1, [] => []
  | f + 1, c :: r => if digF c then ((c :: r).takeWhile digF) :: tokTo f ((c :: r).dropWhile digF) else [c] :: tokTo f r
theorem drop_len (p : UInt8 → Bool) : ∀ l : List UInt8, (l.dropWhile p).length ≤ l.length
  | [] => Nat.le_refl _
  | c :: r => by
    rw [List.dropWhile_cons]
    have := drop_len p r
    split
    · rw [List.length_cons]; omega
    · exact Nat.le_refl _
theorem drop_lt {c : UInt8} {r : List UInt8} (h : digF c = true) : ((c :: r).dropWhile digF).length ≤ r.length := by
  rw [List.dropWhile_cons, if_pos h]; exact drop_len digF r
theorem tokTo_fuel : ∀ (f g : Nat) (l : List UInt8), l.length ≤ f → l.length ≤ g → tokTo f l = tokTo g l
  | 0, 0, _, _, _ => rfl
  | 0, _ + 1, [], _, _ => rfl
  | 0, _ + 1, _ :: _, h, _ => by simp at h
  | _ + 1, 0, [], _, _ => rfl
  | _ + 1, 0, _ :: _, _, h => by simp at h
  | _ + 1, _ + 1, [], _, _ => rfl
  | f + 1, g + 1, c :: r, h1, h2 => by
    rw [List.length_cons] at h1 h2
    rw [tokTo, tokTo]
    by_cases hc : digF c = true
    · have := drop_lt (r := r) hc
      rw [if_pos hc, if_pos hc, tokTo_fuel f g _ (by omega) (by omega)]
    · rw [if_neg hc, if_neg hc, tokTo_fuel f g _ (by omega) (by omega)]
def tok (l : List UInt8) : List (List UInt8) := tokTo l.length l
theorem tok_nil : tok [] = [] := rfl
theorem tok_cons (c : UInt8) (r : List UInt8) : tok (c :: r) = if digF c then ((c :: r).takeWhile digF) :: tok ((c :: r).dropWhile digF) else [c] :: tok r := by
  unfold tok
  rw [List.length_cons, tokTo]
  by_cases hc : digF c = true
  · have := drop_lt (r := r) hc
    rw [if_pos hc, if_pos hc, tokTo_fuel r.length _ _ (by omega) (Nat.le_refl _)]
  · rw [if_neg hc, if_neg hc]
theorem tokTo_join : ∀ (f : Nat) (l : List UInt8), l.length ≤ f → (tokTo f l).flatten = l
  | 0, [], _ => rfl
  | 0, _ :: _, h => by simp at h
  | _ + 1, [], _ => rfl
  | f + 1, c :: r, h => by
    rw [List.length_cons] at h
    rw [tokTo]
    by_cases hc : digF c = true
    · have := drop_lt (r := r) hc
      rw [if_pos hc, List.flatten_cons, tokTo_join f _ (by omega)]
      exact List.takeWhile_append_dropWhile
    · rw [if_neg hc, List.flatten_cons, tokTo_join f _ (by omega)]; rfl
theorem tokTo_p : ∀ (f : Nat) (l : List UInt8), ∀ x ∈ tokTo f l, tokP x
  | 0, _, x, h => by simp [tokTo] at h
  | _ + 1, [], x, h => by simp [tokTo] at h
  | f + 1, c :: r, x, h => by
    rw [tokTo] at h
    by_cases hc : digF c = true
    · rw [if_pos hc] at h
      rcases List.mem_cons.1 h with rfl | h
      · left; rw [List.takeWhile_cons, if_pos hc]; exact hc
      · exact tokTo_p f _ x h
    · rw [if_neg hc] at h
      rcases List.mem_cons.1 h with rfl | h
      · right; exact ⟨c, rfl, by simpa using hc⟩
      · exact tokTo_p f _ x h

/-- natural order -/
def natC (a b : List UInt8) : Int := lexC tokC (tok a) (tok b)
theorem natC_po : PO natC := tokC_po.lex.comp tok
theorem natC_eq {a b : List UInt8} (h : natC a b = 0) : a = b := by
  have e := lexC_eq tokP tokC_eq (tok a) (tok b) (tokTo_p _ _) (tokTo_p _ _) h
  rw [← tokTo_join a.length a (Nat.le_refl _), ← tokTo_join b.length b (Nat.le_refl _)]
  exact congrArg List.flatten e
theorem tok_ne {c : UInt8} {r : List UInt8} : ∃ t ts, tok (c :: r) = t :: ts := by
  rw [tok_cons]; split <;> exact ⟨_, _, rfl⟩
theorem natC_end {a b : List UInt8} (h : a = [] ∨ b = []) : natC a b = cmpN a.length b.length := by
  unfold natC
  cases a with
  | nil =>
    cases b with
    | nil => rfl
    | cons d b => obtain ⟨t, ts, e⟩ := tok_ne (c := d) (r := b); rw [e]; rfl
  | cons c a =>
    cases b with
    | nil => obtain ⟨t, ts, e⟩ := tok_ne (c := c) (r := a); rw [e]; rfl
    | cons d b => rcases h with h | h <;> cases h
theorem natC_dig {c d : UInt8} {a b : List UInt8} (hc : digF c = true) (hd : digF d = true) :
    natC (c :: a) (d :: b) = if numF ((c :: a).takeWhile digF) ((d :: b).takeWhile digF) = 0 then natC ((c :: a).dropWhile digF) ((d :: b).dropWhile digF) else numF ((c :: a).takeWhile digF) ((d :: b).takeWhile digF) := by
  unfold natC
  rw [tok_cons, tok_cons, if_pos hc, if_pos hd, lexC]
  have e : tokC ((c :: a).takeWhile digF) ((d :: b).takeWhile digF) = numF ((c :: a).takeWhile digF) ((d :: b).takeWhile digF) := by
    rw [List.takeWhile_cons, if_pos hc, List.takeWhile_cons, if_pos hd]
    unfold tokC thenC
    simp [clsT, digT, hc, hd, cmpN]
  rw [e]
theorem digF_iff (c : UInt8) : digF c = true ↔ 48 ≤ c.toNat ∧ c.toNat ≤ 57 := by unfold digF; simp
theorem natC_byte {c d : UInt8} {a b : List UInt8} (h : ¬ (digF c = true ∧ digF d = true)) :
    natC (c :: a) (d :: b) = if c = d then natC a b else cmpN c.toNat d.toNat := by
  unfold natC
  have hx : ∀ (e : UInt8) (l : List UInt8), (if digF e = true then (e :: l).takeWhile digF else [e]).headD 0 = e := by
    intro e l
    split
    · rename_i h; rw [List.takeWhile_cons, if_pos h]; rfl
    · rfl
  have key : ∀ x y : List UInt8, x.headD 0 = c → y.headD 0 = d → c ≠ d → tokC x y = cmpN c.toNat d.toNat := by
    intro x y hx hy hne
    have hne2 : c.toNat ≠ d.toNat := fun e => hne (UInt8.toNat_inj.1 e)
    have e0 : cmpN (clsT x) (clsT y) = cmpN c.toNat d.toNat := by
      unfold clsT
      rw [hx, hy]
      by_cases hc : digF c = true
      · have hd : ¬ digF d = true := fun hd => h ⟨hc, hd⟩
        rw [if_pos hc, if_neg hd]
        have r1 := (digF_iff c).1 hc
        have r2 : ¬ (48 ≤ d.toNat ∧ d.toNat ≤ 57) := fun r => hd ((digF_iff d).2 r)
        unfold cmpN
        (repeat' split) <;> omega
      · rw [if_neg hc]
        by_cases hd : digF d = true
        · rw [if_pos hd]
          have r1 := (digF_iff d).1 hd
          have r2 : ¬ (48 ≤ c.toNat ∧ c.toNat ≤ 57) := fun r => hc ((digF_iff c).2 r)
          unfold cmpN
          (repeat' split) <;> omega
        · rw [if_neg hd]
    have e1 : cmpN (clsT x) (clsT y) ≠ 0 := by rw [e0]; exact fun h0 => hne2 (cmpN_eq h0)
    unfold tokC thenC
    show (if cmpN (clsT x) (clsT y) = 0 then _ else cmpN (clsT x) (clsT y)) = _
    rw [if_neg e1, e0]
  by_cases e : c = d
  · subst e
    have hc : ¬ digF c = true := fun hc => h ⟨hc, hc⟩
    rw [if_pos rfl, tok_cons, tok_cons, if_neg hc, if_neg hc, lexC, if_pos (tokC_po.refl _)]
  · rw [if_neg e, tok_cons, tok_cons]
    have e2 : cmpN c.toNat d.toNat ≠ 0 := fun h0 => e (UInt8.toNat_inj.1 (cmpN_eq h0))
    have hk : ∀ x y, x.headD 0 = c → y.headD 0 = d → ∀ xs ys, lexC tokC (x :: xs) (y :: ys) = cmpN c.toNat d.toNat := by
      intro x y hx hy xs ys
      rw [lexC, key x y hx hy e, if_neg e2]
    by_cases hc : digF c = true
    · have hd : ¬ digF d = true := fun hd => h ⟨hc, hd⟩
      rw [if_pos hc, if_neg hd]
      exact hk _ _ (by rw [List.takeWhile_cons, if_pos hc]; rfl) rfl _ _
    · rw [if_neg hc]
      by_cases hd : digF d = true
      · rw [if_pos hd]
        exact hk _ _ rfl (by rw [List.takeWhile_cons, if_pos hd]; rfl) _ _
      · rw [if_neg hd]
        exact hk _ _ rfl rfl _ _
end Go.Proofs.YtngbjnjkcniabaaGreatDoor
