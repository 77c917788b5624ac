/- The reference's Parse as a law on lists: it answers as the program's; a text that is accepted is the one of its duration; no program in sight. -/
import Derived.Test.YtbhhjaflinfnfaaDoorDplain
namespace Go.Proofs.YtbhhjaflinfnfaaDoor
open Go.RowKit

/-! ### a text parted: digits, others, the rest -/
def isDb (b : UInt8) : Bool := digs.data.toList.contains b
theorem head_drop {p : UInt8 → Bool} : ∀ (l : List UInt8) (b : UInt8), (l.dropWhile p).head? = some b → p b = false
  | [], _, h => by cases h
  | c :: l, b, h => by
    rw [List.dropWhile_cons] at h
    by_cases hc : p c = true
    · rw [if_pos hc] at h; exact head_drop l b h
    · rw [if_neg hc] at h
      simp at h
      subst h
      simpa using hc
theorem take_all {p : UInt8 → Bool} (l : List UInt8) : ∀ b ∈ l.takeWhile p, p b = true := by
  induction l with
  | nil => intro b hb; cases hb
  | cons c l ih =>
    intro b hb
    rw [List.takeWhile_cons] at hb
    by_cases hc : p c = true
    · rw [if_pos hc] at hb
      rcases List.mem_cons.1 hb with rfl | hb
      · exact hc
      · exact ih b hb
    · rw [if_neg hc] at hb; cases hb
theorem split_all (l : List UInt8) : ∃ ds un rest, l = ds ++ (un ++ rest) ∧ (∀ b ∈ ds, isDig b) ∧ (∀ b ∈ un, ¬ isDig b) ∧ (∀ b, rest.head? = some b → isDig b) ∧ (un = [] → rest = []) ∧ cutN l = ds.length ∧ cutE l = un.length := by
  obtain ⟨ds, hds⟩ : ∃ ds, l.takeWhile isDb = ds := ⟨_, rfl⟩
  obtain ⟨t, ht⟩ : ∃ t, l.dropWhile isDb = t := ⟨_, rfl⟩
  obtain ⟨un, hun⟩ : ∃ un, t.takeWhile (fun b => !isDb b) = un := ⟨_, rfl⟩
  obtain ⟨rest, hre⟩ : ∃ r, t.dropWhile (fun b => !isDb b) = r := ⟨_, rfl⟩
  have e1 : l = ds ++ t := by rw [← hds, ← ht, List.takeWhile_append_dropWhile]
  have e2 : t = un ++ rest := by rw [← hun, ← hre, List.takeWhile_append_dropWhile]
  have h1 : ∀ b ∈ ds, isDig b := by rw [← hds]; exact fun b hb => take_all l b hb
  have h2 : ∀ b ∈ un, ¬ isDig b := by
    rw [← hun]
    intro b hb k
    have := take_all t b hb
    have k : isDb b = true := k
    rw [k] at this
    cases this
  have h3 : ∀ b, rest.head? = some b → isDig b := by
    rw [← hre]
    intro b hb
    have := head_drop t b hb
    show isDb b = true
    simpa using this
  have h4 : ∀ b, t.head? = some b → ¬ isDig b := by
    rw [← ht]
    intro b hb k
    have h := head_drop l b hb
    have k : isDb b = true := k
    rw [k] at h
    cases h
  have h5 : un = [] → rest = [] := by
    intro he
    rw [he, List.nil_append] at e2
    cases hr : rest with
    | nil => rfl
    | cons b r => exact absurd (h3 b (by rw [hr]; rfl)) (h4 b (by rw [e2, hr]; rfl))
  refine ⟨ds, un, rest, by rw [e1, e2], h1, h2, h3, h5, ?_, ?_⟩
  · rw [e1]; exact cutN_of ds t h1 h4
  · by_cases hn : un = []
    · have hr := h5 hn
      subst hn hr
      have e0 : l = ds := by rw [e1, e2]; simp
      have hc : cutN l = ds.length := by rw [e1]; exact cutN_of ds t h1 h4
      unfold cutE
      rw [hc, e0, List.drop_length, if_pos (by simp [Lib.indexAny])]
      simp
    · rw [e1, e2]; exact (cutE_of ds un rest h1 h2 hn h3).2

/-! ### the value of digits -/
def valD (l : List UInt8) : Nat := l.foldl (fun n c => 10 * n + (c.toNat - 48)) 0
theorem valD_snoc (l : List UInt8) (c : UInt8) : valD (l ++ [c]) = 10 * valD l + (c.toNat - 48) := by unfold valD; rw [List.foldl_append]; rfl
theorem numTo_val (l : List UInt8) : ∀ k, k ≤ l.length → numTo l k = min (valD (l.take k)) 9223372036854775807
  | 0, _ => rfl
  | k + 1, h => by
    rw [numTo, numTo_val l k (by omega), List.take_succ_eq_append_getElem (show k < l.length by omega), valD_snoc]
    have : l.getD k 0 = l[k] := by rw [List.getD, List.getElem?_eq_getElem (by omega)]; rfl
    rw [this]
    unfold satMul
    omega
theorem num_val (l : List UInt8) : numTo l l.length = min (valD l) 9223372036854775807 := by rw [numTo_val l _ (Nat.le_refl _), List.take_length]
/-- the reference's number: stepwise, at most 99999999 -/
def rNum : List UInt8 → Nat → Nat
  | [], n => n
  | c :: l, n => if isDb c = true then rNum l (min (10 * n + (c.toNat - 48)) 99999999) else n
theorem rNum_val : ∀ (ds t : List UInt8) (n : Nat), (∀ b ∈ ds, isDig b) → (∀ b, t.head? = some b → ¬ isDig b) → rNum (ds ++ t) (min n 99999999) = min (ds.foldl (fun n c => 10 * n + (c.toNat - 48)) n) 99999999
  | [], t, n, _, ht => by
    cases t with
    | nil => rfl
    | cons b t => rw [List.nil_append, rNum, if_neg (show ¬ isDb b = true from ht b rfl)]; rfl
  | c :: ds, t, n, hd, ht => by
    rw [List.cons_append, rNum, if_pos (show isDb c = true from hd c (List.mem_cons_self ..)), List.foldl_cons, ← rNum_val ds t _ (fun b hb => hd b (List.mem_cons_of_mem _ hb)) ht]
    congr 1
    omega
/-- the reference's unit at a text -/
def rUnit (l : List UInt8) : Option Nat :=
  if l.take 2 = [109, 115] then some 4 else if l.head? = some 100 then some 0 else if l.head? = some 104 then some 1 else if l.head? = some 109 then some 2 else if l.head? = some 115 then some 3 else none
def rGo : Nat → List UInt8 → Nat → Nat → Bool → Option (Nat × Bool)
  | 0, _, _, _, _ => none
  | f + 1, l, nx, sum, lg =>
    if l = [] then some (sum, lg) else
      match rUnit (l.dropWhile isDb) with
      | none => none
      | some u => if l.takeWhile isDb = [] ∨ l.head? = some 48 ∨ u < nx ∨ (0 < u ∧ uMost u ≤ rNum l 0) then none else
          if u = 0 ∧ 13031250 < rNum l 0 then rGo f ((l.dropWhile isDb).drop (uN u).size) (u + 1) sum true else rGo f ((l.dropWhile isDb).drop (uN u).size) (u + 1) (sum + rNum l 0 * uMs u) lg
def refF (l : List UInt8) : Nat × Nat :=
  if l = [48, 115] then (0, 0) else if l = [] then (0, 5) else
    match rGo (l.length + 1) l 0 0 false with
    | none => (0, 5)
    | some (n, lg) => if lg = true ∨ 1125899906842624 < n then (0, 2) else (n, 0)

theorem take_split {ds t : List UInt8} (hd : ∀ b ∈ ds, isDig b) (ht : ∀ b, t.head? = some b → ¬ isDig b) : (ds ++ t).takeWhile isDb = ds ∧ (ds ++ t).dropWhile isDb = t := by
  induction ds with
  | nil =>
    cases t with
    | nil => exact ⟨rfl, rfl⟩
    | cons b t =>
      have : ¬ isDb b = true := ht b rfl
      exact ⟨by rw [List.nil_append, List.takeWhile_cons, if_neg this], by rw [List.nil_append, List.dropWhile_cons, if_neg this]⟩
  | cons c ds ih =>
    have hc : isDb c = true := hd c (List.mem_cons_self ..)
    obtain ⟨h1, h2⟩ := ih fun b hb => hd b (List.mem_cons_of_mem _ hb)
    exact ⟨by rw [List.cons_append, List.takeWhile_cons, if_pos hc, h1], by rw [List.cons_append, List.dropWhile_cons, if_pos hc, h2]⟩
theorem same_iff {a b : ByteArray} : sameN a b = true ↔ a.data.toList = b.data.toList := by
  unfold sameN
  rw [beq_iff_eq, Lib.toList_data, Lib.toList_data]
theorem findU_some : ∀ (f nx : Nat) (name : ByteArray), 5 ≤ nx + f → findU name f nx < 5 → nx ≤ findU name f nx ∧ (uN (findU name f nx)).data.toList = name.data.toList
  | 0, nx, name, _, h => by rw [findU] at h; omega
  | f + 1, nx, name, hf, h => by
    rw [findU] at h ⊢
    by_cases hn : nx < 5
    · rw [if_pos hn] at h ⊢
      by_cases hs : sameN (uN nx) name = true
      · rw [if_pos hs]; exact ⟨Nat.le_refl _, same_iff.1 hs⟩
      · rw [if_neg hs] at h ⊢
        obtain ⟨h1, h2⟩ := findU_some f (nx + 1) name (by omega) h
        exact ⟨by omega, h2⟩
    · rw [if_neg hn] at h; omega
theorem findU_none : ∀ (f nx : Nat) (name : ByteArray), 5 ≤ nx + f → findU name f nx = 5 → ∀ i, nx ≤ i → i < 5 → (uN i).data.toList ≠ name.data.toList
  | 0, nx, name, hf, _, i, h1, h2 => by omega
  | f + 1, nx, name, hf, h, i, h1, h2 => by
    rw [findU, if_pos (show nx < 5 by omega)] at h
    by_cases hs : sameN (uN nx) name = true
    · rw [if_pos hs] at h; omega
    · rw [if_neg hs] at h
      by_cases e : i = nx
      · subst e; exact fun k => hs (same_iff.2 k)
      · exact findU_none f (nx + 1) name (by omega) h i (by omega) h2
theorem five {i : Nat} (h : i < 5) : i = 0 ∨ i = 1 ∨ i = 2 ∨ i = 3 ∨ i = 4 := by omega
theorem not_dig_115 : ¬ isDig 115 := by decide
theorem rUnit_uN (i : Nat) (hi : i < 5) (rest : List UInt8) (hr : ∀ b, rest.head? = some b → isDig b) : rUnit ((uN i).data.toList ++ rest) = some i := by
  have h2 : rest.take 1 ≠ [115] := by
    cases rest with
    | nil => simp
    | cons b r =>
      simp
      rintro rfl
      exact not_dig_115 (hr 115 rfl)
  rcases five hi with rfl | rfl | rfl | rfl | rfl
  · show rUnit (100 :: rest) = _
    unfold rUnit
    rw [if_neg (by simp), if_pos (by simp)]
  · show rUnit (104 :: rest) = _
    unfold rUnit
    rw [if_neg (by simp), if_neg (by simp), if_pos (by simp)]
  · show rUnit (109 :: rest) = _
    unfold rUnit
    rw [if_neg (by rw [List.take_succ_cons]; intro h; injection h with _ h; exact h2 h), if_neg (by simp), if_neg (by simp), if_pos (by simp)]
  · show rUnit (115 :: rest) = _
    unfold rUnit
    rw [if_neg (by simp), if_neg (by simp), if_neg (by simp), if_neg (by simp), if_pos (by simp)]
  · show rUnit (109 :: 115 :: rest) = _
    unfold rUnit
    rw [if_pos (by simp)]
theorem rUnit_some {t : List UInt8} {u : Nat} (h : rUnit t = some u) : u < 5 ∧ ∃ r, t = (uN u).data.toList ++ r := by
  unfold rUnit at h
  split at h
  · rename_i h1
    injection h with h; subst h
    refine ⟨by decide, t.drop 2, ?_⟩
    have := List.take_append_drop 2 t
    rw [h1] at this
    exact this.symm
  · have hd : ∀ (c : UInt8) (k : Nat), t.head? = some c → (uN k).data.toList = [c] → ∃ r, t = (uN k).data.toList ++ r := fun c k hc hk => by
      cases t with
      | nil => cases hc
      | cons b t =>
        simp at hc
        exact ⟨t, by rw [hk, hc]; rfl⟩
    split at h
    · rename_i h1; injection h with h; subst h; exact ⟨by decide, hd _ 0 h1 rfl⟩
    · split at h
      · rename_i h1; injection h with h; subst h; exact ⟨by decide, hd _ 1 h1 rfl⟩
      · split at h
        · rename_i h1; injection h with h; subst h; exact ⟨by decide, hd _ 2 h1 rfl⟩
        · split at h
          · rename_i h1; injection h with h; subst h; exact ⟨by decide, hd _ 3 h1 rfl⟩
          · cases h
theorem rGo_nondig (f : Nat) {r : List UInt8} (hr : r ≠ []) (hd : ∀ b, r.head? = some b → ¬ isDig b) (nx s : Nat) (lg : Bool) : rGo f r nx s lg = none := by
  cases f with
  | zero => rfl
  | succ f =>
    have ht : r.takeWhile isDb = [] := by
      cases r with
      | nil => rfl
      | cons b r => rw [List.takeWhile_cons, if_neg (show ¬ isDb b = true from hd b rfl)]
    rw [rGo, if_neg hr, ht]
    cases rUnit (r.dropWhile isDb) with
    | none => rfl
    | some u => exact if_pos (.inl rfl)
theorem uN_len (i : Nat) : (uN i).size = (uN i).data.toList.length := Array.length_toList.symm
theorem isDig_rng {b : UInt8} (h : isDig b) : 48 ≤ b.toNat ∧ b.toNat ≤ 57 := digs_mem b h

theorem big_days {S v S' : Nat} (h3 : 13031250 < min v 99999999) (h : min (S + min (min v 9223372036854775807 * 86400000) 9223372036854775807) 9223372036854775807 = S') : 1125899906842624 < S' := by
  have hv : 13031251 ≤ v := Nat.le_trans h3 (Nat.min_le_left _ _)
  have h1 : 13031251 ≤ min v 9223372036854775807 := Nat.le_min.2 ⟨hv, by decide⟩
  have h2 : 13031251 * 86400000 ≤ min v 9223372036854775807 * 86400000 := Nat.mul_le_mul_right _ h1
  have h4 : 1125900086400000 ≤ min (min v 9223372036854775807 * 86400000) 9223372036854775807 := Nat.le_min.2 ⟨h2, by decide⟩
  rw [← h]
  exact Nat.lt_of_lt_of_le (by decide : 1125899906842624 < 1125900086400000) (Nat.le_min.2 ⟨Nat.le_trans h4 (Nat.le_add_left _ _), by decide⟩)
theorem exact_sum {s v ms b S' : Nat} (hv : v ≤ b) (hb : b ≤ 99999998) (hs : s + b * ms ≤ 9223372036854775807) (h : min (s + min (min v 9223372036854775807 * ms) 9223372036854775807) 9223372036854775807 = S') : S' = s + min v 99999999 * ms ∧ s + min v 99999999 * ms ≤ s + b * ms := by
  have h1 : min v 9223372036854775807 = v := Nat.min_eq_left (Nat.le_trans hv (Nat.le_trans hb (by decide)))
  have h2 : min v 99999999 = v := Nat.min_eq_left (Nat.le_trans hv (Nat.le_trans hb (by decide)))
  have h3 : v * ms ≤ b * ms := Nat.mul_le_mul_right _ hv
  have h4 : s + v * ms ≤ s + b * ms := Nat.add_le_add_left h3 _
  rw [h1, Nat.min_eq_left (Nat.le_trans (Nat.le_trans (Nat.le_add_left _ _) h4) hs), Nat.min_eq_left (Nat.le_trans h4 hs)] at h
  rw [h2]
  exact ⟨h.symm, h4⟩
theorem small_unit {i nx S v b S' : Nat} (hi : i < 5) (hb : b ≤ 999) (hm : uMost i = b + 1) (hms : b * uMs i ≤ 3600000000) (hn : ¬ uMost i ≤ min v 99999999) (h4 : S ≤ (if nx = 0 then 0 else 1125900000000000 + nx * 3600000000)) (hS : min (S + min (min v 9223372036854775807 * uMs i) 9223372036854775807) 9223372036854775807 = S') (hni : nx ≤ i := by omega) :
    S' = S + min v 99999999 * uMs i ∧ S + min v 99999999 * uMs i ≤ 1125900000000000 + (i + 1) * 3600000000 := by
  have hv : v ≤ b := by
    refine Nat.le_of_not_lt fun k => hn ?_
    rw [hm]
    exact Nat.le_min.2 ⟨k, by omega⟩
  have h5 : S ≤ 1125900000000000 + i * 3600000000 := by
    split at h4
    · omega
    · exact Nat.le_trans h4 (Nat.add_le_add_left (Nat.mul_le_mul_right _ hni) _)
  have h6 : S + b * uMs i ≤ 1125900000000000 + (i + 1) * 3600000000 := by
    rw [Nat.succ_mul]; omega
  have h7 : (i + 1) * 3600000000 ≤ 5 * 3600000000 := Nat.mul_le_mul_right _ hi
  obtain ⟨h8, h9⟩ := exact_sum hv (by omega) (by omega) hS
  exact ⟨h8, Nat.le_trans h9 h6⟩
set_option maxHeartbeats 1600000 in
theorem go_rel : ∀ (n : Nat) (l : List UInt8) (nx S s : Nat) (lg : Bool) (f g : Nat), l.length ≤ n → l.length < f → l.length < g → nx ≤ 5 → S ≤ 9223372036854775807 → (lg = true → 1125899906842624 < S) → (lg = false → S = s ∧ s ≤ (if nx = 0 then 0 else 1125900000000000 + nx * 3600000000)) →
    (pGo g l nx S = none ∧ rGo f l nx s lg = none) ∨ ∃ P R lg', pGo g l nx S = some P ∧ rGo f l nx s lg = some (R, lg') ∧ (lg' = true → 1125899906842624 < P) ∧ (lg' = false → P = R) := by
  intro n
  induction n with
  | zero =>
    intro l nx S s lg f g hl hf hg _ _ h1 h2
    obtain rfl := List.length_eq_zero_iff.1 (show l.length = 0 by omega)
    obtain ⟨f, rfl⟩ : ∃ f', f = f' + 1 := ⟨f - 1, by omega⟩
    obtain ⟨g, rfl⟩ : ∃ g', g = g' + 1 := ⟨g - 1, by omega⟩
    exact .inr ⟨S, s, lg, by rw [pGo, if_pos rfl], by rw [rGo, if_pos rfl], h1, fun h => (h2 h).1⟩
  | succ n ih =>
    intro l nx S s lg f g hl hf hg hnx hS h1 h2
    obtain ⟨f, rfl⟩ : ∃ f', f = f' + 1 := ⟨f - 1, by omega⟩
    obtain ⟨g, rfl⟩ : ∃ g', g = g' + 1 := ⟨g - 1, by omega⟩
    by_cases hle : l = []
    · subst hle
      exact .inr ⟨S, s, lg, by rw [pGo, if_pos rfl], by rw [rGo, if_pos rfl], h1, fun h => (h2 h).1⟩
    obtain ⟨ds, un, rest, e, hd, hu, hr, hur, hcN, hcE⟩ := split_all l
    have ht : ∀ b, (un ++ rest).head? = some b → ¬ isDig b := fun b hb => by
      cases un with
      | nil => rw [hur rfl] at hb; cases hb
      | cons c un =>
        simp at hb
        subst hb
        exact hu _ (List.mem_cons_self ..)
    obtain ⟨t1, t2⟩ := take_split hd ht
    have p1 : l.take (cutN l) = ds := by rw [hcN, e, List.take_left]
    have p2 : (l.drop (cutN l)).take (cutE l) = un := by rw [hcN, hcE, e, List.drop_left, List.take_left]
    have p3 : l.drop (cutN l + cutE l) = rest := by rw [← List.drop_drop, hcN, hcE, e, List.drop_left, List.drop_left]
    have hP := pGo_cons g l nx S hle
    rw [p1, p2, p3, num_val] at hP
    have hT1 : l.takeWhile isDb = ds := by rw [e]; exact t1
    have hT2 : l.dropWhile isDb = un ++ rest := by rw [e]; exact t2
    have hR : rGo (f + 1) l nx s lg = match rUnit (un ++ rest) with
      | none => none
      | some u => if ds = [] ∨ l.head? = some 48 ∨ u < nx ∨ (0 < u ∧ uMost u ≤ rNum l 0) then none else
          if u = 0 ∧ 13031250 < rNum l 0 then rGo f ((un ++ rest).drop (uN u).size) (u + 1) s true else rGo f ((un ++ rest).drop (uN u).size) (u + 1) (s + rNum l 0 * uMs u) lg := by rw [rGo, if_neg hle, hT1, hT2]
    have hval : rNum l 0 = min (valD ds) 99999999 := by rw [e]; exact rNum_val ds _ 0 hd ht
    rw [hval] at hR
    have hll : l.length = ds.length + (un.length + rest.length) := by rw [e, List.length_append, List.length_append]
    have hhead : ds ≠ [] → (ds.getD 0 0 = 48 ↔ l.head? = some 48) := fun hne => by
      cases ds with
      | nil => exact absurd rfl hne
      | cons c ds => rw [e]; simp [List.getD]
    generalize valD ds = v at *
    have hfl := findU_ge ⟨un.toArray⟩ 5 nx (by omega) (by omega)
    by_cases hi : findU ⟨un.toArray⟩ 5 nx = 5
    · -- no unit
      left
      refine ⟨by rw [hP, if_pos (.inr (.inr (.inl hi)))], ?_⟩
      rw [hR]
      cases hru : rUnit (un ++ rest) with
      | none => rfl
      | some u =>
        dsimp only
        by_cases hc : ds = [] ∨ l.head? = some 48 ∨ u < nx ∨ (0 < u ∧ uMost u ≤ min v 99999999)
        · rw [if_pos hc]
        · rw [if_neg hc]
          obtain ⟨hu5, r, hre⟩ := rUnit_some hru
          have hnu : ¬ u < nx := fun h => hc (.inr (.inr (.inl h)))
          have hne := findU_none 5 nx ⟨un.toArray⟩ (by omega) hi u (by omega) hu5
          have hne : (uN u).data.toList ≠ un := by simpa using hne
          have hlen : (uN u).data.toList.length ≤ un.length := by
            refine Nat.le_of_not_lt fun hlt => ?_
            cases hrest : rest with
            | nil =>
              rw [hrest, List.append_nil] at hre
              rw [hre, List.length_append] at hlt
              omega
            | cons b q =>
              have hb := hr b (by rw [hrest]; rfl)
              have hm : b ∈ (uN u).data.toList := by
                have h3 : (un ++ rest)[un.length]? = some b := by rw [List.getElem?_append_right (Nat.le_refl _), hrest]; simp
                rw [hre, List.getElem?_append_left hlt] at h3
                exact List.mem_of_getElem? h3
              exact uN_nondig u b hm hb
          obtain ⟨un', hun⟩ : ∃ un', un = (uN u).data.toList ++ un' := by
            refine ⟨un.drop (uN u).data.toList.length, ?_⟩
            have h3 : un.take (uN u).data.toList.length = (uN u).data.toList := by
              have h4 := congrArg (List.take (uN u).data.toList.length) hre
              rw [List.take_append_of_le_length hlen, List.take_left] at h4
              exact h4
            conv => lhs; rw [← List.take_append_drop (uN u).data.toList.length un, h3]
          have hun' : un' ≠ [] := fun h => hne (by rw [hun, h, List.append_nil])
          have hdrop : (un ++ rest).drop (uN u).size = un' ++ rest := by rw [uN_len, hun, List.append_assoc, List.drop_left]
          have hnd : ∀ b, (un' ++ rest).head? = some b → ¬ isDig b := fun b hb => by
            cases un' with
            | nil => exact absurd rfl hun'
            | cons c q =>
              simp at hb
              subst hb
              exact hu _ (by rw [hun]; exact List.mem_append.2 (.inr (List.mem_cons_self ..)))
          rw [hdrop]
          have hne2 : un' ++ rest ≠ [] := fun h => hun' (List.append_eq_nil_iff.1 h).1
          split
          · exact rGo_nondig f hne2 hnd _ _ _
          · exact rGo_nondig f hne2 hnd _ _ _
    · -- a unit
      obtain ⟨hin, hnm⟩ := findU_some 5 nx ⟨un.toArray⟩ (by omega) (by omega)
      generalize findU ⟨un.toArray⟩ 5 nx = i at *
      have hun : un = (uN i).data.toList := by simpa using hnm.symm
      have hi5 : i < 5 := by omega
      rw [hun, rUnit_uN i hi5 rest hr] at hR
      dsimp only at hR
      have hdrop : ((uN i).data.toList ++ rest).drop (uN i).size = rest := by rw [uN_len, List.drop_left]
      rw [hdrop] at hR
      by_cases hd0 : ds = []
      · left
        exact ⟨by rw [hP, if_pos (.inl hd0)], by rw [hR, if_pos (.inl hd0)]⟩
      by_cases h48 : l.head? = some 48
      · left
        exact ⟨by rw [hP, if_pos (.inr (.inl ((hhead hd0).2 h48)))], by rw [hR, if_pos (.inr (.inl h48))]⟩
      have h48' : ¬ ds.getD 0 0 = 48 := fun h => h48 ((hhead hd0).1 h)
      have hdp : 0 < ds.length := List.length_pos_iff.2 hd0
      have hrl : rest.length ≤ n := by omega
      have hmost : (0 < uMost i ∧ uMost i ≤ min v 9223372036854775807) ↔ (0 < i ∧ uMost i ≤ min v 99999999) := by
        have h3 := uMost_le i
        have h4 : 0 < uMost i ↔ 0 < i := by rcases five hi5 with rfl | rfl | rfl | rfl | rfl <;> decide
        rw [h4]
        refine and_congr_right fun _ => ?_
        omega
      by_cases hm : 0 < i ∧ uMost i ≤ min v 99999999
      · left
        exact ⟨by rw [hP, if_pos (.inr (.inr (.inr (hmost.2 hm))))], by rw [hR, if_pos (.inr (.inr (.inr hm)))]⟩
      have hcP : ¬ (ds = [] ∨ ds.getD 0 0 = 48 ∨ i = 5 ∨ (0 < uMost i ∧ uMost i ≤ min v 9223372036854775807)) := by
        rintro (h | h | h | h)
        · exact hd0 h
        · exact h48' h
        · omega
        · exact hm (hmost.1 h)
      have hcR : ¬ (ds = [] ∨ l.head? = some 48 ∨ i < nx ∨ (0 < i ∧ uMost i ≤ min v 99999999)) := by
        rintro (h | h | h | h)
        · exact hd0 h
        · exact h48 h
        · omega
        · exact hm h
      rw [if_neg hcP] at hP
      rw [if_neg hcR] at hR
      rw [hP, hR]
      obtain ⟨S', hS'⟩ : ∃ S', min (S + satMul (min v 9223372036854775807) (uMs i)) 9223372036854775807 = S' := ⟨_, rfl⟩
      have hS2 := hS'
      unfold satMul at hS2
      rw [hS']
      have hSm : S' ≤ 9223372036854775807 := by rw [← hS2]; exact Nat.min_le_right _ _
      have hSS : S ≤ S' := by rw [← hS2]; exact Nat.le_min.2 ⟨Nat.le_add_right _ _, hS⟩
      by_cases hlg : i = 0 ∧ 13031250 < min v 99999999
      · rw [if_pos hlg]
        obtain ⟨h0, h3⟩ := hlg
        subst h0
        rw [show uMs 0 = 86400000 from rfl] at hS2
        have hbig : 1125899906842624 < S' := big_days h3 hS2
        exact ih rest (0 + 1) S' s true f g hrl (by omega) (by omega) (by decide) hSm (fun _ => hbig) (fun h => by cases h)
      · rw [if_neg hlg]
        have key : lg = false → S' = s + min v 99999999 * uMs i ∧ s + min v 99999999 * uMs i ≤ 1125900000000000 + (i + 1) * 3600000000 := fun h => by
          obtain ⟨h3, h4⟩ := h2 h
          subst h3
          rcases five hi5 with rfl | rfl | rfl | rfl | rfl
          · have h5 : nx = 0 := by omega
            rw [if_pos h5] at h4
            have h6 : v ≤ 13031250 := by
              refine Nat.le_of_not_lt fun k => hlg ⟨rfl, ?_⟩
              exact Nat.lt_min.2 ⟨k, by decide⟩
            rw [show uMs 0 = 86400000 from rfl] at hS2 ⊢
            have h7 := exact_sum h6 (by decide) (by omega) hS2
            exact ⟨h7.1, by omega⟩
          · exact small_unit (by decide) (b := 23) (by decide) rfl (by decide) (fun k => hm ⟨by decide, k⟩) h4 hS2
          · exact small_unit (by decide) (b := 59) (by decide) rfl (by decide) (fun k => hm ⟨by decide, k⟩) h4 hS2
          · exact small_unit (by decide) (b := 59) (by decide) rfl (by decide) (fun k => hm ⟨by decide, k⟩) h4 hS2
          · exact small_unit (by decide) (b := 999) (by decide) rfl (by decide) (fun k => hm ⟨by decide, k⟩) h4 hS2
        exact ih rest (i + 1) S' (s + min v 99999999 * uMs i) lg f g hrl (by omega) (by omega) (by omega) hSm (fun h => Nat.lt_of_lt_of_le (h1 h) hSS) (fun h => ⟨(key h).1, by rw [if_neg (Nat.succ_ne_zero i)]; exact (key h).2⟩)
theorem ref_same (l : List UInt8) : refF l = parseF l := by
  unfold refF parseF
  by_cases h1 : l = [48, 115]
  · rw [if_pos h1, if_pos h1]
  rw [if_neg h1, if_neg h1]
  by_cases h2 : l = []
  · rw [if_pos h2, if_pos h2]
  rw [if_neg h2, if_neg h2]
  rcases go_rel _ l 0 0 0 false (l.length + 1) (l.length + 1) (Nat.le_refl _) (Nat.lt_succ_self _) (Nat.lt_succ_self _) (by decide) (by decide) (fun h => by cases h) (fun _ => ⟨rfl, by simp⟩) with ⟨h3, h4⟩ | ⟨P, R, lg, h3, h4, h5, h6⟩
  · rw [h3, h4]
  · rw [h3, h4]
    dsimp only
    cases lg with
    | true => rw [if_pos (.inl rfl), if_pos (h5 rfl)]
    | false =>
      rw [h6 rfl]
      by_cases h7 : 1125899906842624 < R
      · rw [if_pos (.inr h7), if_pos h7]
      · rw [if_neg (fun h => h.elim (fun k => by cases k) h7), if_neg h7]
end Go.Proofs.YtbhhjaflinfnfaaDoor
