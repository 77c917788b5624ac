/- Plain laws: a text of parts in order parses to the sum of the parts; what is shown is such a text. -/
import Derived.Test.YtbhhjaflinfnfaaDoorRDur1
namespace Go.Proofs.YtbhhjaflinfnfaaDoor
open Go.RowKit

def isDig (b : UInt8) : Prop := digs.data.toList.contains b = true
instance (b : UInt8) : Decidable (isDig b) := inferInstanceAs (Decidable (_ = true))

theorem trim_digs : ∀ (ds r : List UInt8), (∀ b ∈ ds, isDig b) → (∀ b, r.head? = some b → ¬ isDig b) → Lib.trimLeftS (ds ++ r) digs.data.toList = r
  | [], r, _, hr => by
    unfold Lib.trimLeftS
    cases r with
    | nil => rfl
    | cons b r =>
      rw [List.nil_append, List.dropWhile_cons, if_neg (show ¬ digs.data.toList.contains b = true from hr b rfl)]
  | b :: ds, r, hd, hr => by
    have ih := trim_digs ds r (fun c hc => hd c (List.mem_cons_of_mem _ hc)) hr
    unfold Lib.trimLeftS at *
    rw [List.cons_append, List.dropWhile_cons, if_pos (show digs.data.toList.contains b = true from hd b (List.mem_cons_self ..))]
    exact ih

theorem cutN_of (ds r : List UInt8) (hd : ∀ b ∈ ds, isDig b) (hr : ∀ b, r.head? = some b → ¬ isDig b) : cutN (ds ++ r) = ds.length := by
  unfold cutN
  rw [trim_digs ds r hd hr, List.length_append]
  omega

theorem index_of : ∀ (un rest : List UInt8), (∀ b ∈ un, ¬ isDig b) → (∀ b, rest.head? = some b → isDig b) → Lib.indexAny (un ++ rest) digs.data.toList = if rest = [] then -1 else (un.length : Int)
  | [], rest, _, hr => by
    cases rest with
    | nil => rfl
    | cons b r =>
      rw [List.nil_append, Lib.indexAny, if_pos (show digs.data.toList.contains b = true from hr b rfl), if_neg (by simp)]
      rfl
  | b :: un, rest, hu, hr => by
    have ih := index_of un rest (fun c hc => hu c (List.mem_cons_of_mem _ hc)) hr
    rw [List.cons_append, Lib.indexAny, if_neg (show ¬ digs.data.toList.contains b = true from hu b (List.mem_cons_self ..)), ih]
    by_cases h : rest = []
    · rw [if_pos h, if_pos (by decide), if_pos h]
    · rw [if_neg h, if_neg (by simp), if_neg h, List.length_cons] <;> omega

theorem cutE_of (ds un rest : List UInt8) (hd : ∀ b ∈ ds, isDig b) (hu : ∀ b ∈ un, ¬ isDig b) (hn : un ≠ []) (hr : ∀ b, rest.head? = some b → isDig b) : cutN (ds ++ (un ++ rest)) = ds.length ∧ cutE (ds ++ (un ++ rest)) = un.length := by
  have h1 : cutN (ds ++ (un ++ rest)) = ds.length := cutN_of ds (un ++ rest) hd (by
    cases un with
    | nil => exact absurd rfl hn
    | cons b un => intro c hc; simp at hc; subst hc; exact hu _ (List.mem_cons_self ..))
  refine ⟨h1, ?_⟩
  unfold cutE
  rw [h1, List.drop_left, index_of un rest hu hr]
  by_cases h : rest = []
  · subst h
    simp
  · rw [if_neg h, if_neg (by omega)]; simp

theorem numTo_app (l r : List UInt8) : ∀ k, k ≤ l.length → numTo (l ++ r) k = numTo l k
  | 0, _ => rfl
  | k + 1, h => by
    rw [numTo, numTo, numTo_app l r k (by omega)]
    have : (l ++ r).getD k 0 = l.getD k 0 := by
      rw [List.getD, List.getD, List.getElem?_append_left (by omega)]
    rw [this]

theorem dig_toNat (m : Nat) (hm : m < 10) : (UInt8.ofNat (48 + m)).toNat = 48 + m := by
  have : ∀ k : Fin 10, (UInt8.ofNat (48 + k.val)).toNat = 48 + k.val := by decide
  exact this ⟨m, hm⟩
theorem dig_isDig (m : Nat) (hm : m < 10) : isDig (UInt8.ofNat (48 + m)) := by
  have : ∀ k : Fin 10, isDig (UInt8.ofNat (48 + k.val)) := by decide
  exact this ⟨m, hm⟩

theorem dec_digs (v : Nat) : ∀ b ∈ Lib.decDigits v, isDig b := by
  induction v using Nat.strongRecOn with
  | _ v ih =>
    rw [Lib.decDigits]
    split
    · rename_i h
      intro b hb
      rw [List.mem_singleton] at hb
      subst hb
      exact dig_isDig v h
    · intro b hb
      rcases List.mem_append.1 hb with hb | hb
      · exact ih (v / 10) (by omega) b hb
      · rw [List.mem_singleton] at hb
        subst hb
        exact dig_isDig _ (Nat.mod_lt _ (by decide))

theorem dec_ne (v : Nat) : Lib.decDigits v ≠ [] := by
  intro h
  have := Lib.decDigits_length v
  have h2 := Lib.nDigits_pos v
  rw [h] at this
  simp at this
  omega

theorem dec_head (v : Nat) (hv : 0 < v) : (Lib.decDigits v).getD 0 0 ≠ 48 := by
  induction v using Nat.strongRecOn with
  | _ v ih =>
    rw [Lib.decDigits]
    split
    · rename_i h
      intro hb
      have hb2 := congrArg UInt8.toNat hb
      simp only [List.getD, List.getElem?_cons_zero, Option.getD_some] at hb2
      rw [dig_toNat v h] at hb2
      have : (48 : UInt8).toNat = 48 := rfl
      omega
    · have hl : 0 < (Lib.decDigits (v / 10)).length := by
        rw [Lib.decDigits_length]; exact Lib.nDigits_pos _
      have := ih (v / 10) (by omega) (by omega)
      rw [List.getD, List.getElem?_append_left hl]
      exact this

theorem dec_num (v : Nat) (hv : v ≤ 9223372036854775807) : numTo (Lib.decDigits v) (Lib.decDigits v).length = v := by
  induction v using Nat.strongRecOn with
  | _ v ih =>
    rw [Lib.decDigits]
    split
    · rename_i h
      show min (satMul 0 10 + ((UInt8.ofNat (48 + v)).toNat - 48)) 9223372036854775807 = v
      rw [dig_toNat v h]
      unfold satMul
      omega
    · have h1 := ih (v / 10) (by omega) (by omega)
      rw [List.length_append, List.length_singleton, numTo, numTo_app _ _ _ (Nat.le_refl _), h1]
      have : (Lib.decDigits (v / 10) ++ [UInt8.ofNat (48 + v % 10)]).getD (Lib.decDigits (v / 10)).length 0 = UInt8.ofNat (48 + v % 10) := by
        rw [List.getD, List.getElem?_append_right (Nat.le_refl _)]; simp
      rw [this, dig_toNat _ (Nat.mod_lt _ (by decide))]
      unfold satMul
      omega

theorem uN_nondig (i : Nat) : ∀ b ∈ (uN i).data.toList, ¬ isDig b := by
  unfold uN
  (repeat' split) <;> decide
theorem uN_ne (i : Nat) : (uN i).data.toList ≠ [] := by
  unfold uN
  (repeat' split) <;> decide
theorem findU_uN (i nx : Nat) (hi : i < 5) (hn : nx ≤ i) : findU (uN i) 5 nx = i := by
  have : ∀ i nx : Fin 5, nx.val ≤ i.val → findU (uN i.val) 5 nx.val = i.val := by decide +kernel
  exact this ⟨i, hi⟩ ⟨nx, by omega⟩ hn

theorem pStep (g v i nx sum : Nat) (rest : List UInt8) (hv : 0 < v) (hv2 : v ≤ 9223372036854775807) (hi : i < 5) (hn : nx ≤ i) (hm : uMost i = 0 ∨ v < uMost i) (hr : ∀ b, rest.head? = some b → isDig b) :
    pGo (g + 1) (Lib.decDigits v ++ ((uN i).data.toList ++ rest)) nx sum = pGo g rest (i + 1) (min (sum + satMul v (uMs i)) 9223372036854775807) := by
  obtain ⟨h1, h2⟩ := cutE_of (Lib.decDigits v) (uN i).data.toList rest (dec_digs v) (uN_nondig i) (uN_ne i) hr
  rw [pGo_cons g _ nx sum (by simp [dec_ne v])]
  rw [h1, h2, List.take_left, List.drop_left, List.take_left]
  have e : (⟨(uN i).data.toList.toArray⟩ : ByteArray) = uN i := by simp
  rw [e, findU_uN i nx hi hn, dec_num v hv2]
  rw [if_neg (by
    rintro (h | h | h | h)
    · exact dec_ne v h
    · exact dec_head v hv h
    · omega
    · omega)]
  rw [← List.append_assoc, List.drop_left' (by rw [List.length_append])]

/-- the text of parts -/
def txt (vs : Nat → Nat) : Nat → Nat → List UInt8
  | 0, _ => []
  | f + 1, i => (if vs i = 0 then [] else Lib.decDigits (vs i) ++ (uN i).data.toList) ++ txt vs f (i + 1)
def tot (vs : Nat → Nat) : Nat → Nat → Nat
  | 0, _ => 0
  | f + 1, i => vs i * uMs i + tot vs f (i + 1)

theorem txt_head (vs : Nat → Nat) : ∀ f i b, (txt vs f i).head? = some b → isDig b ∧ b ≠ 48
  | 0, i, b, h => by simp [txt] at h
  | f + 1, i, b, h => by
    rw [txt] at h
    by_cases h0 : vs i = 0
    · rw [if_pos h0, List.nil_append] at h
      exact txt_head vs f (i + 1) b h
    · rw [if_neg h0] at h
      have hd := dec_digs (vs i)
      have hh := dec_head (vs i) (by omega)
      cases hl : Lib.decDigits (vs i) with
      | nil => exact absurd hl (dec_ne _)
      | cons c r =>
        rw [hl] at h hd hh
        simp at h
        subst h
        exact ⟨hd _ (List.mem_cons_self ..), by simpa using hh⟩

theorem pGo_txt (vs : Nat → Nat) (hb : ∀ i, i < 5 → uMost i = 0 ∨ vs i < uMost i) : ∀ (f i nx g sum : Nat), i + f = 5 → nx ≤ i → (txt vs f i).length < g → sum + tot vs f i ≤ 9223372036854775807 →
    pGo g (txt vs f i) nx sum = some (sum + tot vs f i)
  | 0, i, nx, g, sum, _, _, hg, _ => by
    obtain ⟨g, rfl⟩ : ∃ k, g = k + 1 := ⟨g - 1, by omega⟩
    rw [txt, tot, pGo, if_pos rfl, Nat.add_zero]
  | f + 1, i, nx, g, sum, hif, hn, hg, hs => by
    rw [tot] at hs
    by_cases h0 : vs i = 0
    · rw [txt, if_pos h0, List.nil_append] at *
      rw [h0, Nat.zero_mul, Nat.zero_add] at hs
      rw [pGo_txt vs hb f (i + 1) nx g sum (by omega) (by omega) hg hs, tot, h0, Nat.zero_mul, Nat.zero_add]
    · rw [txt, if_neg h0, List.append_assoc] at *
      obtain ⟨g, rfl⟩ : ∃ k, g = k + 1 := ⟨g - 1, by omega⟩
      have hp := uMs_pos i
      have hvm : vs i ≤ vs i * uMs i := Nat.le_mul_of_pos_right _ hp
      rw [pStep g (vs i) i nx sum _ (by omega) (by omega) (by omega) hn (hb i (by omega)) (fun b h => (txt_head vs f (i + 1) b h).1)]
      have hl : 0 < (Lib.decDigits (vs i)).length := by rw [Lib.decDigits_length]; exact Lib.nDigits_pos _
      rw [List.length_append, List.length_append] at hg
      have hmin : min (sum + satMul (vs i) (uMs i)) 9223372036854775807 = sum + vs i * uMs i := by unfold satMul; omega
      rw [hmin, pGo_txt vs hb f (i + 1) (i + 1) g (sum + vs i * uMs i) (by omega) (Nat.le_refl _) (by omega) (by omega), tot]
      congr 1
      omega

theorem parse_txt (vs : Nat → Nat) (hb : ∀ i, i < 5 → uMost i = 0 ∨ vs i < uMost i) (hne : txt vs 5 0 ≠ []) (ht : tot vs 5 0 ≤ 1125899906842624) : parseF (txt vs 5 0) = (tot vs 5 0, 0) := by
  unfold parseF
  rw [if_neg (by
    intro h
    have := txt_head vs 5 0 48 (by rw [h]; rfl)
    exact this.2 rfl), if_neg hne]
  rw [pGo_txt vs hb 5 0 0 _ 0 rfl (Nat.le_refl _) (Nat.lt_succ_self _) (by omega), Nat.zero_add]
  show (if 1125899906842624 < tot vs 5 0 then (0, 2) else (tot vs 5 0, 0)) = _
  rw [if_neg (by omega)]

theorem showTo_txt (n k : Nat) (x : Nat) (l : List UInt8) (h : showTo n k = (x, l)) : showTo n (k + 1) = (x % uMs k, l ++ (if x / uMs k = 0 then [] else Lib.decDigits (x / uMs k) ++ (uN k).data.toList)) := by
  rw [showTo, h]
  by_cases h0 : x / uMs k = 0
  · rw [if_neg (by show ¬ 0 < x / uMs k; rw [h0]; decide), if_pos h0, List.append_nil]
  · rw [if_pos (Nat.pos_of_ne_zero h0), if_neg h0, Lib.itoa_nonneg]

def digOf (n i : Nat) : Nat := (showTo n i).1 / uMs i
theorem showF_txt (n : Nat) (hn : 0 < n) : showF n = txt (digOf n) 5 0 ∧ tot (digOf n) 5 0 = n ∧ (∀ i, i < 5 → uMost i = 0 ∨ digOf n i < uMost i) := by
  have e0 : showTo n 0 = (n, []) := rfl
  have e1 := showTo_txt n 0 _ _ e0
  have e2 := showTo_txt n 1 _ _ e1
  have e3 := showTo_txt n 2 _ _ e2
  have e4 := showTo_txt n 3 _ _ e3
  have e5 := showTo_txt n 4 _ _ e4
  have d0 : digOf n 0 = n / 86400000 := rfl
  have d1 : digOf n 1 = n % 86400000 / 3600000 := by unfold digOf; rw [e1]; rfl
  have d2 : digOf n 2 = n % 86400000 % 3600000 / 60000 := by unfold digOf; rw [e2]; rfl
  have d3 : digOf n 3 = n % 86400000 % 3600000 % 60000 / 1000 := by unfold digOf; rw [e3]; rfl
  have d4 : digOf n 4 = n % 86400000 % 3600000 % 60000 % 1000 / 1 := by unfold digOf; rw [e4]; rfl
  refine ⟨?_, ?_, ?_⟩
  · unfold showF
    rw [if_neg (by omega), e5]
    simp only [txt, d0, d1, d2, d3, d4, List.nil_append, List.append_nil, List.append_assoc]
    rfl
  · show digOf n 0 * 86400000 + (digOf n 1 * 3600000 + (digOf n 2 * 60000 + (digOf n 3 * 1000 + (digOf n 4 * 1 + 0)))) = n
    rw [d0, d1, d2, d3, d4]
    omega
  · intro i hi
    have hi5 : i = 0 ∨ i = 1 ∨ i = 2 ∨ i = 3 ∨ i = 4 := by omega
    rcases hi5 with rfl | rfl | rfl | rfl | rfl
    · left; rfl
    · right; show digOf n 1 < 24; rw [d1]; omega
    · right; show digOf n 2 < 60; rw [d2]; omega
    · right; show digOf n 3 < 60; rw [d3]; omega
    · right; show digOf n 4 < 1000; rw [d4]; omega

/-- what is shown stands for the number -/
theorem parse_show (n : Nat) (hn : n ≤ 1125899906842624) : parseF (showF n) = (n, 0) := by
  by_cases h0 : n = 0
  · subst h0; rfl
  · obtain ⟨h1, h2, h3⟩ := showF_txt n (by omega)
    rw [h1, parse_txt (digOf n) h3 (by
      intro h
      have hp := pGo_txt (digOf n) h3 5 0 0 1 0 rfl (Nat.le_refl _) (by rw [h]; decide) (by omega)
      rw [h, h2, pGo, if_pos rfl] at hp
      simp at hp
      omega) (by omega), h2]

theorem uN_ascii (i : Nat) : ∀ b ∈ (uN i).data.toList, b.toNat < 128 := by
  unfold uN
  (repeat' split) <;> decide
theorem txt_ascii (vs : Nat → Nat) : ∀ f i, ∀ b ∈ txt vs f i, b.toNat < 128
  | 0, i, b, h => by simp [txt] at h
  | f + 1, i, b, h => by
    rw [txt] at h
    rcases List.mem_append.1 h with h | h
    · split at h
      · simp at h
      · rcases List.mem_append.1 h with h | h
        · have := digs_mem b (dec_digs _ b h); omega
        · exact uN_ascii i b h
    · exact txt_ascii vs f (i + 1) b h
theorem show_ascii (n : Nat) : ∀ b ∈ showF n, b.toNat < 128 := by
  by_cases h0 : n = 0
  · subst h0; decide
  · rw [(showF_txt n (by omega)).1]; exact txt_ascii _ 5 0
theorem show_len (n : Nat) (hn : n ≤ 1125899906842624) : (showF n).length ≤ 90 := by
  unfold showF
  split
  · decide
  · exact showTo_len n hn 5
end Go.Proofs.YtbhhjaflinfnfaaDoor
