/- Decimal digits: what they read as; no program in sight. -/
import Derived.Test.YtbndgmbjfgmdnaaGreatDoorVa1
import Derived.Lib.ItoaLen
import Derived.Lib.ItoaMem
import Derived.SliceStrings
import Derived.ProofKit
import Derived.OpenShut
import Derived.Deep.Slices
import Derived.Deep.Fields
import Derived.Deep.AppendLies
namespace Go.Proofs.YtbndgmbjfgmdnaaGreatDoor

def isDg (b : UInt8) : Bool := decide (48 ≤ b.toNat) && decide (b.toNat ≤ 57)
def numD (l : List UInt8) : Nat := l.foldl (fun n b => 10 * n + (b.toNat - 48)) 0
theorem dg_toNat (m : Nat) (hm : m < 10) : (UInt8.ofNat (48 + m)).toNat = 48 + m := by
  rw [UInt8.toNat_ofNat']; omega
theorem dec_stp {v : Nat} (h : ¬ v < 10) : Lib.decDigits v = Lib.decDigits (v / 10) ++ [UInt8.ofNat (48 + v % 10)] := by rw [Lib.decDigits, dif_neg h]
theorem dec_digs (v : Nat) : ∀ b ∈ Lib.decDigits v, isDg b = true := by
  induction v using Nat.strongRecOn with
  | _ v ih =>
    intro b hb
    by_cases h : v < 10
    · rw [Lib.decDigits_one h] at hb
      rw [List.mem_singleton.1 hb]
      unfold isDg
      rw [dg_toNat v h]
      simp; omega
    · rw [dec_stp h] at hb
      rcases List.mem_append.1 hb with hb | hb
      · exact ih (v / 10) (by omega) b hb
      · rw [List.mem_singleton.1 hb]
        unfold isDg
        rw [dg_toNat _ (Nat.mod_lt _ (by decide))]
        simp; omega
theorem dec_some (v : Nat) : Lib.decDigits v ≠ [] := by
  by_cases h : v < 10
  · rw [Lib.decDigits_one h]; simp
  · rw [dec_stp h]; simp
theorem numD_dec (v : Nat) : numD (Lib.decDigits v) = v := by
  induction v using Nat.strongRecOn with
  | _ v ih =>
    by_cases h : v < 10
    · rw [Lib.decDigits_one h]
      show 10 * 0 + ((UInt8.ofNat (48 + v)).toNat - 48) = v
      rw [dg_toNat v h]; omega
    · rw [dec_stp h]
      unfold numD at ih ⊢
      rw [List.foldl_append, ih (v / 10) (by omega)]
      show 10 * (v / 10) + ((UInt8.ofNat (48 + v % 10)).toNat - 48) = v
      rw [dg_toNat _ (Nat.mod_lt _ (by decide))]; omega
theorem dec_inj {a b : Nat} (h : Lib.decDigits a = Lib.decDigits b) : a = b := by rw [← numD_dec a, h, numD_dec]
theorem isDg_rng {b : UInt8} (h : isDg b = true) : 48 ≤ b.toNat ∧ b.toNat ≤ 57 := by unfold isDg at h; simpa using h
/-- digits that end where no digit stands -/
theorem digs_cut : ∀ {l m r r' : List UInt8}, (∀ b ∈ l, isDg b = true) → (∀ b ∈ m, isDg b = true) → (∀ b, r.head? = some b → isDg b = false) → (∀ b, r'.head? = some b → isDg b = false) → l ++ r = m ++ r' → l = m ∧ r = r'
  | [], [], _, _, _, _, _, _, h => ⟨rfl, h⟩
  | [], b :: m, r, r', _, hm, hr, _, h => by
    have h1 := hr b (by rw [show r = b :: (m ++ r') from h]; rfl)
    rw [hm b (List.mem_cons_self ..)] at h1; cases h1
  | b :: l, [], r, r', hl, _, _, hr', h => by
    have h1 := hr' b (by rw [show r' = b :: (l ++ r) from h.symm]; rfl)
    rw [hl b (List.mem_cons_self ..)] at h1; cases h1
  | b :: l, c :: m, r, r', hl, hm, hr, hr', h => by
    rw [List.cons_append, List.cons_append] at h
    injection h with h1 h2
    obtain ⟨h3, h4⟩ := digs_cut (fun x hx => hl x (List.mem_cons_of_mem _ hx)) (fun x hx => hm x (List.mem_cons_of_mem _ hx)) hr hr' h2
    exact ⟨by rw [h1, h3], h4⟩
/-- numbers in decimal that end where no digit stands -/
theorem itoa_cut {a b : Int} {r r' : List UInt8} (hr : ∀ c, r.head? = some c → isDg c = false) (hr' : ∀ c, r'.head? = some c → isDg c = false) (h : Lib.itoa a ++ r = Lib.itoa b ++ r') : a = b ∧ r = r' := by
  have neg : ∀ (x y : Nat) (r r' : List UInt8), 1 ≤ x → Lib.itoa (-(x : Int)) ++ r = Lib.itoa (y : Int) ++ r' → False := fun x y r r' hx h => by
    rw [Lib.itoa_neg x hx, Lib.itoa_nonneg] at h
    have hm := dec_digs y
    cases hd : Lib.decDigits y with
    | nil => exact dec_some y hd
    | cons c l =>
      rw [hd] at h hm
      injection h with h1 h2
      have := hm c (List.mem_cons_self ..)
      rw [← h1] at this
      revert this; decide
  by_cases ha : a < 0
  · obtain ⟨x, rfl, hx⟩ : ∃ x : Nat, a = -(x : Int) ∧ 1 ≤ x := ⟨a.natAbs, by omega, by omega⟩
    by_cases hb : b < 0
    · obtain ⟨y, rfl, hy⟩ : ∃ y : Nat, b = -(y : Int) ∧ 1 ≤ y := ⟨b.natAbs, by omega, by omega⟩
      rw [Lib.itoa_neg x hx, Lib.itoa_neg y hy, List.cons_append, List.cons_append] at h
      injection h with _ h
      obtain ⟨h1, h2⟩ := digs_cut (dec_digs x) (dec_digs y) hr hr' h
      rw [dec_inj h1]; exact ⟨rfl, h2⟩
    · obtain ⟨y, rfl⟩ : ∃ y : Nat, b = (y : Int) := ⟨b.toNat, by omega⟩
      exact (neg x y r r' hx h).elim
  · obtain ⟨x, rfl⟩ : ∃ x : Nat, a = (x : Int) := ⟨a.toNat, by omega⟩
    by_cases hb : b < 0
    · obtain ⟨y, rfl, hy⟩ : ∃ y : Nat, b = -(y : Int) ∧ 1 ≤ y := ⟨b.natAbs, by omega, by omega⟩
      exact (neg y x r' r hy h.symm).elim
    · obtain ⟨y, rfl⟩ : ∃ y : Nat, b = (y : Int) := ⟨b.toNat, by omega⟩
      rw [Lib.itoa_nonneg, Lib.itoa_nonneg] at h
      obtain ⟨h1, h2⟩ := digs_cut (dec_digs x) (dec_digs y) hr hr' h
      rw [dec_inj h1]; exact ⟨rfl, h2⟩
theorem itoa_head (n : Int) : ∃ c l, Lib.itoa n = c :: l ∧ (c = 45 ∨ isDg c = true) := by
  by_cases h : n < 0
  · obtain ⟨x, rfl, hx⟩ : ∃ x : Nat, n = -(x : Int) ∧ 1 ≤ x := ⟨n.natAbs, by omega, by omega⟩
    exact ⟨45, _, Lib.itoa_neg x hx, .inl rfl⟩
  · obtain ⟨x, rfl⟩ : ∃ x : Nat, n = (x : Int) := ⟨n.toNat, by omega⟩
    rw [Lib.itoa_nonneg]
    have hm := dec_digs x
    cases hd : Lib.decDigits x with
    | nil => exact absurd hd (dec_some x)
    | cons c l => rw [hd] at hm; exact ⟨c, l, rfl, .inr (hm c (List.mem_cons_self ..))⟩
end Go.Proofs.YtbndgmbjfgmdnaaGreatDoor
/- The literals of values: different valid values have different literals; no program in sight. -/
namespace Go.Proofs.YtbndgmbjfgmdnaaGreatDoor

def hexF (n : Nat) : UInt8 := if n < 10 then UInt8.ofNat (48 + n) else UInt8.ofNat (87 + n)
/-- the characters of a byte in a string's literal -/
def chF (c : UInt8) : List UInt8 :=
  if c = 34 ∨ c = 92 then [92, c] else if c = 10 then [92, 110] else if c = 9 then [92, 116] else if 32 ≤ c.toNat ∧ c.toNat ≤ 126 then [c] else [92, 120, hexF (c.toNat / 16), hexF (c.toNat % 16)]
def quoteF (s : List UInt8) : List UInt8 := 34 :: (s.flatMap chF ++ [34])
/-- texts with a comma and a space between them -/
def joinT : List (List UInt8) → List UInt8
  | [] => []
  | [x] => x
  | x :: y :: l => x ++ 44 :: 32 :: joinT (y :: l)
def itemF (k : ByteArray) (l : List UInt8) : List UInt8 := quoteF k.data.toList ++ 58 :: 32 :: l
mutual
def litF : VT → List UInt8
  | .mk k b n s L ks =>
    if k = 1 then (if b then [116, 114, 117, 101] else [102, 97, 108, 115, 101]) else
    if k = 2 then Lib.itoa n else
    if k = 3 then quoteF s.data.toList else
    if k = 4 then 91 :: (joinT (litL L) ++ [93]) else
    if k = 5 then 123 :: (joinT (List.zipWith itemF ks (litL L)) ++ [125]) else [110, 117, 108, 108]
def litL : List VT → List (List UInt8)
  | [] => []
  | t :: L => litF t :: litL L
end
theorem litL_map : ∀ L, litL L = L.map litF
  | [] => rfl
  | t :: L => by rw [litL, litL_map L]; rfl
theorem litF_eqn (t : VT) : litF t = if t.kind = 1 then (if t.bool then [116, 114, 117, 101] else [102, 97, 108, 115, 101]) else
    if t.kind = 2 then Lib.itoa t.int else
    if t.kind = 3 then quoteF t.str.data.toList else
    if t.kind = 4 then 91 :: (joinT (t.list.map litF) ++ [93]) else
    if t.kind = 5 then 123 :: (joinT (List.zipWith itemF t.keys (t.list.map litF)) ++ [125]) else [110, 117, 108, 108] := by
  cases t
  rw [litF, litL_map]
  rfl

/-! ### reading a string's literal -/
def unhex (c : UInt8) : Nat := if c.toNat < 58 then c.toNat - 48 else c.toNat - 87
def deCh : List UInt8 → UInt8 × List UInt8
  | [] => (0, [])
  | c :: X => if c = 92 then (match X with
    | [] => (0, [])
    | d :: X => if d = 120 then (match X with
      | h :: l :: X => (UInt8.ofNat (16 * unhex h + unhex l), X)
      | _ => (0, [])) else if d = 110 then (10, X) else if d = 116 then (9, X) else (d, X)) else (c, X)
theorem hex_back : ∀ c : UInt8, UInt8.ofNat (16 * unhex (hexF (c.toNat / 16)) + unhex (hexF (c.toNat % 16))) = c := by
  have h : ∀ k : Fin 256, UInt8.ofNat (16 * unhex (hexF ((UInt8.ofNat k.val).toNat / 16)) + unhex (hexF ((UInt8.ofNat k.val).toNat % 16))) = UInt8.ofNat k.val := by decide +kernel
  intro c
  have := h ⟨c.toNat, c.toNat_lt⟩
  rwa [UInt8.ofNat_toNat] at this
theorem deCh_ch (c : UInt8) (X : List UInt8) : deCh (chF c ++ X) = (c, X) := by
  unfold chF
  by_cases h1 : c = 34 ∨ c = 92
  · rw [if_pos h1]
    rcases h1 with rfl | rfl <;> rfl
  · rw [if_neg h1]
    by_cases h2 : c = 10
    · rw [if_pos h2, h2]; rfl
    · rw [if_neg h2]
      by_cases h3 : c = 9
      · rw [if_pos h3, h3]; rfl
      · rw [if_neg h3]
        by_cases h4 : 32 ≤ c.toNat ∧ c.toNat ≤ 126
        · rw [if_pos h4]
          show (if c = 92 then _ else (c, X)) = _
          rw [if_neg (fun e => h1 (.inr e))]
        · rw [if_neg h4]
          show (UInt8.ofNat (16 * unhex (hexF (c.toNat / 16)) + unhex (hexF (c.toNat % 16))), X) = _
          rw [hex_back]
theorem chF_head (c : UInt8) : ∃ d l, chF c = d :: l ∧ d ≠ 34 := by
  unfold chF
  by_cases h1 : c = 34 ∨ c = 92
  · rw [if_pos h1]; exact ⟨92, _, rfl, by decide⟩
  · rw [if_neg h1]
    by_cases h2 : c = 10
    · rw [if_pos h2]; exact ⟨92, _, rfl, by decide⟩
    · rw [if_neg h2]
      by_cases h3 : c = 9
      · rw [if_pos h3]; exact ⟨92, _, rfl, by decide⟩
      · rw [if_neg h3]
        by_cases h4 : 32 ≤ c.toNat ∧ c.toNat ≤ 126
        · rw [if_pos h4]; exact ⟨c, _, rfl, fun e => h1 (.inl e)⟩
        · rw [if_neg h4]; exact ⟨92, _, rfl, by decide⟩
theorem chars_cut : ∀ {s t r r' : List UInt8}, s.flatMap chF ++ 34 :: r = t.flatMap chF ++ 34 :: r' → s = t ∧ r = r'
  | [], [], _, _, h => by
    injection h with _ h
    exact ⟨rfl, h⟩
  | [], c :: t, r, r', h => by
    obtain ⟨d, l, e, hd⟩ := chF_head c
    rw [List.flatMap_cons, e] at h
    injection h with h1 _
    exact absurd h1.symm hd
  | c :: s, [], r, r', h => by
    obtain ⟨d, l, e, hd⟩ := chF_head c
    rw [List.flatMap_cons, e] at h
    injection h with h1 _
    exact absurd h1 hd
  | c :: s, d :: t, r, r', h => by
    rw [List.flatMap_cons, List.flatMap_cons, List.append_assoc, List.append_assoc] at h
    have h2 := congrArg deCh h
    rw [deCh_ch, deCh_ch] at h2
    injection h2 with h3 h4
    obtain ⟨h5, h6⟩ := chars_cut h4
    exact ⟨by rw [h3, h5], h6⟩
theorem quote_cut {s t r r' : List UInt8} (h : quoteF s ++ r = quoteF t ++ r') : s = t ∧ r = r' := by
  unfold quoteF at h
  simp only [List.cons_append, List.append_assoc, List.nil_append] at h
  injection h with _ h
  exact chars_cut h

/-! ### literals end where a comma or a bracket stands -/
def Stop (r : List UInt8) : Prop := ∀ c, r.head? = some c → c = 44 ∨ c = 93 ∨ c = 125
theorem Stop.dig {r : List UInt8} (h : Stop r) : ∀ c, r.head? = some c → isDg c = false := fun c hc => by
  rcases h c hc with rfl | rfl | rfl <;> decide
theorem stop_cons {c : UInt8} (l : List UInt8) (h : c = 44 ∨ c = 93 ∨ c = 125) : Stop (c :: l) := fun d hd => by
  injection hd with hd; rw [← hd]; exact h
theorem join_cons (x : List UInt8) (L : List (List UInt8)) (h : L ≠ []) : joinT (x :: L) = x ++ 44 :: 32 :: joinT L := by
  cases L with
  | nil => exact absurd rfl h
  | cons y L => rfl
theorem join_cut {α : Type} {f : α → List UInt8} {e : UInt8} {P Q : α → Prop} (he : e = 93 ∨ e = 125) (hinj : ∀ x y r r', P x → Q y → Stop r → Stop r' → f x ++ r = f y ++ r' → x = y ∧ r = r') (hne : ∀ x, ∃ c l, f x = c :: l ∧ c ≠ e) :
    ∀ (L M : List α) (r r' : List UInt8), (∀ x ∈ L, P x) → (∀ y ∈ M, Q y) → joinT (L.map f) ++ e :: r = joinT (M.map f) ++ e :: r' → L = M ∧ r = r'
  | [], [], r, r', _, _, h => by
    injection h with _ h
    exact ⟨rfl, h⟩
  | [], y :: M, r, r', _, hM, h => by
    obtain ⟨c, l, e1, hc⟩ := hne y
    exfalso
    have hj : ∃ l2, joinT ((y :: M).map f) = c :: l2 := by
      rw [List.map_cons]
      cases M with
      | nil => exact ⟨l, e1⟩
      | cons z M => rw [join_cons _ _ (by simp), e1]; exact ⟨_, rfl⟩
    obtain ⟨l2, hl2⟩ := hj
    rw [hl2] at h
    injection h with h1 _
    exact hc h1.symm
  | x :: L, [], r, r', hL, _, h => by
    obtain ⟨c, l, e1, hc⟩ := hne x
    exfalso
    have hj : ∃ l2, joinT ((x :: L).map f) = c :: l2 := by
      rw [List.map_cons]
      cases L with
      | nil => exact ⟨l, e1⟩
      | cons z L => rw [join_cons _ _ (by simp), e1]; exact ⟨_, rfl⟩
    obtain ⟨l2, hl2⟩ := hj
    rw [hl2] at h
    injection h with h1 _
    exact hc h1
  | x :: L, y :: M, r, r', hL, hM, h => by
    have px := hL x (List.mem_cons_self ..)
    have py := hM y (List.mem_cons_self ..)
    have hes : e = 44 ∨ e = 93 ∨ e = 125 := .inr he
    have hne44 : e ≠ 44 := by rcases he with rfl | rfl <;> decide
    have tail : ∀ (z : α) (K : List α) (q : List UInt8), ∃ t, joinT ((z :: K).map f) ++ e :: q = f z ++ t ∧ Stop t ∧ ((K = [] ∧ t = e :: q) ∨ (K ≠ [] ∧ t = 44 :: 32 :: (joinT (K.map f) ++ e :: q))) := fun z K q => by
      rw [List.map_cons]
      cases K with
      | nil => exact ⟨e :: q, rfl, stop_cons _ hes, .inl ⟨rfl, rfl⟩⟩
      | cons k K =>
        refine ⟨44 :: 32 :: (joinT ((k :: K).map f) ++ e :: q), ?_, stop_cons _ (.inl rfl), .inr ⟨by simp, rfl⟩⟩
        rw [join_cons _ _ (by simp)]
        simp
    obtain ⟨t1, e1, s1, c1⟩ := tail x L r
    obtain ⟨t2, e2, s2, c2⟩ := tail y M r'
    rw [e1, e2] at h
    obtain ⟨hxy, ht⟩ := hinj x y t1 t2 px py s1 s2 h
    rcases c1 with ⟨rfl, rfl⟩ | ⟨hL0, rfl⟩
    · rcases c2 with ⟨rfl, rfl⟩ | ⟨hM0, rfl⟩
      · injection ht with _ ht
        exact ⟨by rw [hxy], ht⟩
      · injection ht with h1 _
        exact absurd h1 hne44
    · rcases c2 with ⟨rfl, rfl⟩ | ⟨hM0, rfl⟩
      · injection ht with h1 _
        exact absurd h1.symm hne44
      · injection ht with _ ht
        injection ht with _ ht
        obtain ⟨h1, h2⟩ := join_cut he hinj hne L M r r' (fun z hz => hL z (List.mem_cons_of_mem _ hz)) (fun z hz => hM z (List.mem_cons_of_mem _ hz)) ht
        exact ⟨by rw [hxy, h1], h2⟩

/-- the first character of a literal -/
theorem lit_head (t : VT) : ∃ c l, litF t = c :: l ∧ ((t.kind = 1 ∧ (c = 116 ∧ t.bool = true ∨ c = 102 ∧ t.bool = false)) ∨ (t.kind = 2 ∧ (c = 45 ∨ isDg c = true)) ∨ (t.kind = 3 ∧ c = 34) ∨ (t.kind = 4 ∧ c = 91) ∨ (t.kind = 5 ∧ c = 123) ∨ (t.kind ≠ 1 ∧ t.kind ≠ 2 ∧ t.kind ≠ 3 ∧ t.kind ≠ 4 ∧ t.kind ≠ 5 ∧ c = 110)) := by
  rw [litF_eqn]
  by_cases h1 : t.kind = 1
  · rw [if_pos h1]
    cases hb : t.bool with
    | true => exact ⟨116, _, rfl, .inl ⟨h1, .inl ⟨rfl, rfl⟩⟩⟩
    | false => exact ⟨102, _, rfl, .inl ⟨h1, .inr ⟨rfl, rfl⟩⟩⟩
  · rw [if_neg h1]
    by_cases h2 : t.kind = 2
    · rw [if_pos h2]
      obtain ⟨c, l, e, h⟩ := itoa_head t.int
      exact ⟨c, l, e, .inr (.inl ⟨h2, h⟩)⟩
    · rw [if_neg h2]
      by_cases h3 : t.kind = 3
      · rw [if_pos h3]; exact ⟨34, _, rfl, .inr (.inr (.inl ⟨h3, rfl⟩))⟩
      · rw [if_neg h3]
        by_cases h4 : t.kind = 4
        · rw [if_pos h4]; exact ⟨91, _, rfl, .inr (.inr (.inr (.inl ⟨h4, rfl⟩)))⟩
        · rw [if_neg h4]
          by_cases h5 : t.kind = 5
          · rw [if_pos h5]; exact ⟨123, _, rfl, .inr (.inr (.inr (.inr (.inl ⟨h5, rfl⟩))))⟩
          · rw [if_neg h5]; exact ⟨110, _, rfl, .inr (.inr (.inr (.inr (.inr ⟨h1, h2, h3, h4, h5, rfl⟩))))⟩
theorem head_kind {a b : VT} (ha : 0 ≤ a.kind ∧ a.kind ≤ 5) (hb : 0 ≤ b.kind ∧ b.kind ≤ 5) {r r' : List UInt8} (h : litF a ++ r = litF b ++ r') : a.kind = b.kind ∧ (a.kind = 1 → a.bool = b.bool) := by
  obtain ⟨c, l, e, hc⟩ := lit_head a
  obtain ⟨d, m, e', hd⟩ := lit_head b
  rw [e, e'] at h
  injection h with h _
  subst h
  have dg : isDg c = true → c ≠ 116 ∧ c ≠ 102 ∧ c ≠ 34 ∧ c ≠ 91 ∧ c ≠ 123 ∧ c ≠ 110 := fun h => by
    have := isDg_rng h
    refine ⟨?_, ?_, ?_, ?_, ?_, ?_⟩ <;> (rintro rfl; revert this; decide)
  have n45 : c = 45 → c ≠ 116 ∧ c ≠ 102 ∧ c ≠ 34 ∧ c ≠ 91 ∧ c ≠ 123 ∧ c ≠ 110 := fun h => by subst h; decide
  have cls : (a.kind = 2 ∧ (c = 45 ∨ isDg c = true)) → c ≠ 116 ∧ c ≠ 102 ∧ c ≠ 34 ∧ c ≠ 91 ∧ c ≠ 123 ∧ c ≠ 110 := fun h => h.2.elim n45 dg
  have cls' : (b.kind = 2 ∧ (c = 45 ∨ isDg c = true)) → c ≠ 116 ∧ c ≠ 102 ∧ c ≠ 34 ∧ c ≠ 91 ∧ c ≠ 123 ∧ c ≠ 110 := fun h => h.2.elim n45 dg
  rcases hc with ⟨h1, (⟨rfl, hb1⟩ | ⟨rfl, hb1⟩)⟩ | h2 | ⟨h3, rfl⟩ | ⟨h4, rfl⟩ | ⟨h5, rfl⟩ | ⟨n1, n2, n3, n4, n5, rfl⟩ <;>
  rcases hd with ⟨g1, (⟨gc, hb2⟩ | ⟨gc, hb2⟩)⟩ | g2 | ⟨g3, gc⟩ | ⟨g4, gc⟩ | ⟨g5, gc⟩ | ⟨m1, m2, m3, m4, m5, gc⟩ <;>
  first
    | (exfalso; revert gc; decide)
    | exact ⟨by omega, fun _ => by rw [hb1, hb2]⟩
    | exact absurd rfl (cls' g2).1
    | exact absurd rfl (cls' g2).2.1
    | exact absurd rfl (cls' g2).2.2.1
    | exact absurd rfl (cls' g2).2.2.2.1
    | exact absurd rfl (cls' g2).2.2.2.2.1
    | exact absurd rfl (cls' g2).2.2.2.2.2
    | exact absurd gc (cls h2).1
    | exact absurd gc (cls h2).2.1
    | exact absurd gc (cls h2).2.2.1
    | exact absurd gc (cls h2).2.2.2.1
    | exact absurd gc (cls h2).2.2.2.2.1
    | exact absurd gc (cls h2).2.2.2.2.2
    | exact ⟨by omega, fun h => by omega⟩

theorem lit_not (t : VT) (e : UInt8) (he : e = 93 ∨ e = 125) : ∃ c l, litF t = c :: l ∧ c ≠ e := by
  obtain ⟨c, l, h, hc⟩ := lit_head t
  refine ⟨c, l, h, ?_⟩
  rintro rfl
  have dg : isDg c = true → False := fun h => by
    have := isDg_rng h
    rcases he with rfl | rfl <;> (revert this; decide)
  have n1 : c ≠ 116 ∧ c ≠ 102 ∧ c ≠ 45 ∧ c ≠ 34 ∧ c ≠ 91 ∧ c ≠ 123 ∧ c ≠ 110 := by rcases he with rfl | rfl <;> decide
  rcases hc with ⟨_, (⟨h, _⟩ | ⟨h, _⟩)⟩ | ⟨_, (h | h)⟩ | ⟨_, h⟩ | ⟨_, h⟩ | ⟨_, h⟩ | ⟨_, _, _, _, _, h⟩
  · exact n1.1 h
  · exact n1.2.1 h
  · exact n1.2.2.1 h
  · exact dg h
  · exact n1.2.2.2.1 h
  · exact n1.2.2.2.2.1 h
  · exact n1.2.2.2.2.2.1 h
  · exact n1.2.2.2.2.2.2 h
theorem zip_items : ∀ (ks : List ByteArray) (L : List VT), List.zipWith itemF ks (L.map litF) = (ks.zip L).map fun x => itemF x.1 (litF x.2)
  | [], _ => by simp
  | _ :: _, [] => by simp
  | k :: ks, t :: L => by
    rw [List.map_cons, List.zipWith_cons_cons, List.zip_cons_cons, List.map_cons, zip_items ks L]
theorem zip_inj {α β : Type} : ∀ {a a' : List α} {b b' : List β}, a.length = b.length → a'.length = b'.length → a.zip b = a'.zip b' → a = a' ∧ b = b'
  | [], [], [], [], _, _, _ => ⟨rfl, rfl⟩
  | [], _ :: _, [], _ :: _, _, _, h => by simp at h
  | _ :: _, [], _ :: _, [], _, _, h => by simp at h
  | x :: a, x' :: a', y :: b, y' :: b', h1, h2, h => by
    rw [List.zip_cons_cons, List.zip_cons_cons] at h
    injection h with h3 h4
    injection h3 with h3 h5
    obtain ⟨h6, h7⟩ := zip_inj (by simpa using h1) (by simpa using h2) h4
    exact ⟨by rw [h3, h6], by rw [h5, h7]⟩
theorem keyed_len {t : VT} (h : keyedF t = true) : t.keys.length = t.list.length := by
  unfold keyedF at h
  rw [Bool.and_eq_true] at h
  exact of_decide_eq_true h.1

theorem lit_cut : ∀ (n : Nat) (la lb : Nat) (a b : VT) (r r' : List UInt8), a.depth ≤ n → checkF la a = 0 → checkF lb b = 0 → Stop r → Stop r' → litF a ++ r = litF b ++ r' → a = b ∧ r = r'
  | 0, _, _, a, _, _, _, hd, _, _, _, _, _ => by have := depth_pos a; omega
  | n + 1, la, lb, a, b, r, r', hd, ha, hb, hr, hr', h => by
    obtain ⟨na, ca⟩ := check_zero ha
    obtain ⟨nb, cb⟩ := check_zero hb
    obtain ⟨_, ka0, ka5, pa, _, _, _, _, _, ya⟩ := node_zero na
    obtain ⟨_, kb0, kb5, pb, _, _, _, _, _, yb⟩ := node_zero nb
    obtain ⟨hk, hbool⟩ := head_kind ⟨ka0, ka5⟩ ⟨kb0, kb5⟩ h
    obtain ⟨pa1, pa2, pa3, pa4, pa5⟩ := plain_parts pa
    obtain ⟨pb1, pb2, pb3, pb4, pb5⟩ := plain_parts pb
    rw [← hk] at pb1 pb2 pb3 pb4 pb5 yb
    have B : a.kind ≠ 1 → a.bool = b.bool := fun k => by rw [pa1 k, pb1 k]
    have I : a.kind ≠ 2 → a.int = b.int := fun k => by rw [pa2 k, pb2 k]
    have S : a.kind ≠ 3 → a.str = b.str := fun k => bytes_ext (by rw [pa3 k, pb3 k])
    have L : a.kind ≠ 4 → a.kind ≠ 5 → a.list = b.list := fun k k2 => by rw [pa4 k k2, pb4 k k2]
    have K : a.kind ≠ 5 → a.keys = b.keys := fun k => by rw [pa5 k, pb5 k]
    have PX : ∀ x ∈ a.list, x.depth ≤ n ∧ checkF (la + 1) x = 0 := fun x hx => ⟨by have := depthL_mem hx; have := depth_list a; omega, ca x hx⟩
    rw [litF_eqn a, litF_eqn b, ← hk] at h
    by_cases k1 : a.kind = 1
    · rw [if_pos k1, if_pos k1, hbool k1] at h
      exact ⟨vt_ext hk (hbool k1) (I (by omega)) (S (by omega)) (L (by omega) (by omega)) (K (by omega)), List.append_cancel_left h⟩
    rw [if_neg k1, if_neg k1] at h
    by_cases k2 : a.kind = 2
    · rw [if_pos k2, if_pos k2] at h
      obtain ⟨h1, h2⟩ := itoa_cut hr.dig hr'.dig h
      exact ⟨vt_ext hk (B k1) h1 (S (by omega)) (L (by omega) (by omega)) (K (by omega)), h2⟩
    rw [if_neg k2, if_neg k2] at h
    by_cases k3 : a.kind = 3
    · rw [if_pos k3, if_pos k3] at h
      obtain ⟨h1, h2⟩ := quote_cut h
      exact ⟨vt_ext hk (B k1) (I k2) (bytes_ext h1) (L (by omega) (by omega)) (K (by omega)), h2⟩
    rw [if_neg k3, if_neg k3] at h
    have inj : ∀ (x y : VT) (q q' : List UInt8), (x.depth ≤ n ∧ checkF (la + 1) x = 0) → checkF (lb + 1) y = 0 → Stop q → Stop q' → litF x ++ q = litF y ++ q' → x = y ∧ q = q' := fun x y q q' hx hy hq hq' h =>
      lit_cut n (la + 1) (lb + 1) x y q q' hx.1 hx.2 hy hq hq' h
    by_cases k4 : a.kind = 4
    · rw [if_pos k4, if_pos k4] at h
      simp only [List.cons_append, List.append_assoc, List.nil_append] at h
      injection h with _ h
      obtain ⟨h1, h2⟩ := join_cut (.inl rfl) inj (fun x => lit_not x 93 (.inl rfl)) a.list b.list r r' PX cb h
      exact ⟨vt_ext hk (B k1) (I k2) (S k3) h1 (K (by omega)), h2⟩
    rw [if_neg k4, if_neg k4] at h
    by_cases k5 : a.kind = 5
    · rw [if_pos k5, if_pos k5, zip_items, zip_items] at h
      simp only [List.cons_append, List.append_assoc, List.nil_append] at h
      injection h with _ h
      have inj2 : ∀ (x y : ByteArray × VT) (q q' : List UInt8), (x.2.depth ≤ n ∧ checkF (la + 1) x.2 = 0) → checkF (lb + 1) y.2 = 0 → Stop q → Stop q' → itemF x.1 (litF x.2) ++ q = itemF y.1 (litF y.2) ++ q' → x = y ∧ q = q' := fun x y q q' hx hy hq hq' h => by
        unfold itemF at h
        rw [List.append_assoc, List.append_assoc] at h
        obtain ⟨h1, h2⟩ := quote_cut h
        simp only [List.cons_append] at h2
        injection h2 with _ h2
        injection h2 with _ h2
        obtain ⟨h3, h4⟩ := inj x.2 y.2 q q' hx hy hq hq' h2
        exact ⟨Prod.ext (bytes_ext h1) h3, h4⟩
      obtain ⟨h1, h2⟩ := join_cut (f := fun x : ByteArray × VT => itemF x.1 (litF x.2)) (.inr rfl) inj2 (fun x => ⟨34, _, rfl, by decide⟩) (a.keys.zip a.list) (b.keys.zip b.list) r r' (fun x hx => PX x.2 (List.of_mem_zip hx).2) (fun y hy => cb y.2 (List.of_mem_zip hy).2) h
      obtain ⟨h3, h4⟩ := zip_inj (keyed_len (ya k5)) (keyed_len (yb k5)) h1
      exact ⟨vt_ext hk (B k1) (I k2) (S k3) h4 h3, h2⟩
    rw [if_neg k5, if_neg k5] at h
    exact ⟨vt_ext hk (B k1) (I k2) (S k3) (L k4 k5) (K k5), List.append_cancel_left h⟩
/-- different valid values have different literals -/
theorem lit_inj {a b : VT} (ha : validF a = 0) (hb : validF b = 0) : litF a = litF b ↔ a = b := by
  constructor
  · intro h
    exact (lit_cut _ 1 1 a b [] [] (Nat.le_refl _) ha hb (fun _ h => by cases h) (fun _ h => by cases h) (by rw [List.append_nil, List.append_nil]; exact h)).1
  · rintro rfl; rfl
theorem lit_some (t : VT) : litF t ≠ [] := by
  obtain ⟨c, l, e, _⟩ := lit_head t
  rw [e]; simp
end Go.Proofs.YtbndgmbjfgmdnaaGreatDoor
/- Nested lists; the number of levels, node by node; entries and texts of values; no program in sight. -/
namespace Go.Proofs.YtbndgmbjfgmdnaaGreatDoor

/-- a number, or an empty list, in some lists -/
def nestT : Nat → Bool → VT
  | 0, e => if e then .mk 4 false 0 ⟨#[]⟩ [] [] else .mk 2 false 7 ⟨#[]⟩ [] []
  | n + 1, e => .mk 4 false 0 ⟨#[]⟩ [nestT n e] []
theorem nest_check (e : Bool) : ∀ (n lv : Nat), checkF lv (nestT n e) = if lv + n ≤ (if e then 15 else 16) then 0 else 13
  | 0, lv => by
    have hz : (⟨#[]⟩ : ByteArray).size = 0 := rfl
    rw [checkF_eqn]
    cases e with
    | true =>
      have hl : (nestT 0 true).list = [] := rfl
      rw [hl, checkL]
      unfold nodeF
      simp only [nestT, VT.kind, VT.int, VT.str, VT.list, VT.keys, if_true]
      by_cases h : 16 < lv
      · rw [if_pos h, if_pos (by decide), if_neg (by omega)]
      · by_cases h2 : lv = 16
        · subst h2; decide
        · have hp : plainF (VT.mk 4 false 0 ⟨#[]⟩ [] []) = true := by decide
          rw [if_neg h, hp, if_pos (show lv + 0 ≤ 15 by omega)]
          simp [h2, hz]
    | false =>
      have hl : (nestT 0 false).list = [] := rfl
      rw [hl, checkL]
      unfold nodeF
      simp only [nestT, VT.kind, VT.int, VT.str, VT.list, VT.keys, if_false, Bool.false_eq_true]
      by_cases h : 16 < lv
      · rw [if_pos h, if_pos (by decide), if_neg (by omega)]
      · have hp : plainF (VT.mk 2 false 7 ⟨#[]⟩ [] []) = true := by decide
        rw [if_neg h, hp, if_pos (show lv + 0 ≤ 16 by omega)]
        simp [hz]
  | n + 1, lv => by
    rw [checkF_eqn]
    have hl : (nestT (n + 1) e).list = [nestT n e] := rfl
    rw [hl, checkL, checkL, nest_check e n (lv + 1)]
    unfold nodeF
    have hp : plainF (nestT (n + 1) e) = true := by unfold plainF; simp [nestT, VT.kind, VT.bool, VT.int, VT.str, VT.list, VT.keys]
    have hle : (if e then 15 else 16) ≤ 16 := by cases e <;> decide
    have hz : (⟨#[]⟩ : ByteArray).size = 0 := rfl
    rw [hp]
    simp only [nestT, VT.kind, VT.int, VT.str, VT.list, VT.keys]
    by_cases h : 16 < lv
    · rw [if_pos h, if_pos (by decide), if_neg (by omega)]
    · rw [if_neg h]
      by_cases h2 : lv + 1 + n ≤ (if e then 15 else 16)
      · rw [if_pos h2, if_pos (show lv + (n + 1) ≤ _ by omega)]
        simp [hz]
      · rw [if_neg h2, if_neg (show ¬ lv + (n + 1) ≤ _ by omega)]
        simp [hz]
theorem nest_valid (e : Bool) (n : Nat) : validF (nestT n e) = if n < (if e then 15 else 16) then 0 else 13 := by
  unfold validF
  rw [nest_check]
  by_cases h : n < (if e then 15 else 16)
  · rw [if_pos h, if_pos (by omega)]
  · rw [if_neg h, if_neg (by omega)]

/-! ### levels, node by node -/
def topE (x : Nat × VT) : Nat := x.1 + (if (x.2.kind = 4 ∨ x.2.kind = 5) ∧ x.2.list.length = 0 then 1 else 0)
def topF (m : Nat) (l : List (Nat × VT)) : Nat := l.foldl (fun m x => max m (topE x)) m
theorem topF_app (m : Nat) (l k : List (Nat × VT)) : topF m (l ++ k) = topF (topF m l) k := by unfold topF; rw [List.foldl_append]
theorem top_nodes : ∀ (n : Nat) (lv m : Nat) (t : VT), t.depth ≤ n → checkF lv t = 0 → 1 ≤ lv → topF m (t.nodes lv) = max m (lv - 1 + levelsF t)
  | 0, _, _, t, h, _, _ => by have := depth_pos t; omega
  | n + 1, lv, m, t, hd, h, h1 => by
    obtain ⟨hn, hc⟩ := check_zero h
    obtain ⟨_, _, _, p4, _⟩ := plain_parts (node_zero hn).2.2.2.1
    have L : ∀ (L : List VT) (m : Nat), (∀ x ∈ L, x.depth ≤ n ∧ checkF (lv + 1) x = 0) → topF m (L.flatMap (VT.nodes (lv + 1))) = max m (if L = [] then 0 else lv + levelsL L) := by
      intro L
      induction L with
      | nil => intro m _; rw [List.flatMap_nil, if_pos rfl, Nat.max_zero]; rfl
      | cons x L ih =>
        intro m hx
        rw [List.flatMap_cons, topF_app, top_nodes n (lv + 1) m x (hx x (List.mem_cons_self ..)).1 (hx x (List.mem_cons_self ..)).2 (by omega), ih _ fun y hy => hx y (List.mem_cons_of_mem _ hy), if_neg (List.cons_ne_nil x L), levelsL]
        by_cases hL : L = []
        · subst hL
          rw [if_pos rfl, levelsL]
          omega
        · rw [if_neg hL]
          omega
    rw [nodes_eqn]
    show topF (max m (topE (lv, t))) _ = _
    rw [L t.list _ fun x hx => ⟨by have := depthL_mem hx; have := depth_list t; omega, hc x hx⟩, levelsF_eqn]
    unfold topE
    by_cases hk : t.kind = 4 ∨ t.kind = 5
    · rw [if_pos hk]
      by_cases hl : t.list = []
      · rw [if_pos hl, if_pos ⟨hk, by rw [hl]; rfl⟩, hl, levelsL]
        show max (max m (lv + 1)) 0 = max m (lv - 1 + max 2 (1 + 0))
        omega
      · have hlen : ¬ t.list.length = 0 := fun e => hl (List.length_eq_zero_iff.1 e)
        rw [if_neg hl, if_neg (fun h => hlen h.2)]
        obtain ⟨x, hx⟩ := List.exists_mem_of_length_pos (show 0 < t.list.length by omega)
        have h2 := levelsL_mem hx
        have h3 := levels_pos x
        show max (max m (lv + 0)) (lv + levelsL t.list) = max m (lv - 1 + max 2 (1 + levelsL t.list))
        omega
    · have hl : t.list = [] := p4 (fun e => hk (.inl e)) (fun e => hk (.inr e))
      rw [if_neg hk, if_pos hl, if_neg (fun h => hk h.1)]
      show max (max m (lv + 0)) 0 = max m (lv - 1 + 1)
      omega
theorem top_levels {t : VT} (h : validF t = 0) : topF 0 (t.nodes 1) = levelsF t := by
  rw [top_nodes _ 1 0 t (Nat.le_refl _) h (Nat.le_refl _)]; omega

/-! ### entries and texts -/
/-- the place of a key -/
def keyPl (key : ByteArray) : List ByteArray → Option Nat
  | [] => none
  | k :: l => if k = key then some 0 else (keyPl key l).map (· + 1)
def getF (t : VT) (key : ByteArray) : Option VT := if t.kind = 5 then (keyPl key t.keys).bind fun i => t.list[i]? else none
def textF (t : VT) : List UInt8 × Nat :=
  if t.kind = 4 ∨ t.kind = 5 then ([], 9) else if validF t ≠ 0 then ([], validF t) else if t.kind = 0 then ([], 0) else if t.kind = 3 then (t.str.data.toList, 0) else (litF t, 0)
def showT (t : VT) : List UInt8 := if validF t = 0 then litF t else []
theorem keyPl_lt : ∀ {l : List ByteArray} {key : ByteArray} {i : Nat}, keyPl key l = some i → i < l.length ∧ l[i]? = some key
  | k :: l, key, i, h => by
    rw [keyPl] at h
    by_cases e : k = key
    · rw [if_pos e] at h
      injection h with h
      subst h e
      exact ⟨by simp, rfl⟩
    · rw [if_neg e] at h
      obtain ⟨j, hj, rfl⟩ := Option.map_eq_some_iff.1 h
      obtain ⟨h1, h2⟩ := keyPl_lt hj
      exact ⟨by simpa using h1, by simpa using h2⟩
theorem keyPl_mem : ∀ {l : List ByteArray} {key : ByteArray}, keyPl key l = none ↔ key ∉ l
  | [], _ => by simp [keyPl]
  | k :: l, key => by
    rw [keyPl]
    by_cases e : k = key
    · rw [if_pos e]; simp [e]
    · rw [if_neg e, Option.map_eq_none_iff, keyPl_mem]
      simp [Ne.symm e]
theorem keyPl_nodup : ∀ {l : List ByteArray} {i : Nat} (hi : i < l.length), l.Nodup → keyPl l[i] l = some i
  | k :: l, 0, _, _ => by rw [keyPl]; simp
  | k :: l, i + 1, hi, h => by
    rw [List.nodup_cons] at h
    have hm : l[i]'(by simpa using hi) ∈ l := List.getElem_mem _
    rw [keyPl, List.getElem_cons_succ, if_neg (fun e => h.1 (by rw [e]; exact hm)), keyPl_nodup (by simpa using hi) h.2]
    rfl
end Go.Proofs.YtbndgmbjfgmdnaaGreatDoor
/- What the chapter's examples come to; no program in sight. -/
namespace Go.Proofs.YtbndgmbjfgmdnaaGreatDoor

abbrev sK2 : ByteArray := ⟨#[107, 50]⟩
abbrev sK10 : ByteArray := ⟨#[107, 49, 48]⟩
def aT1 : VT := .mk 2 false 1 ⟨#[]⟩ [] []
def aT2 : VT := .mk 3 false 0 ⟨#[97]⟩ [] []
def aT5 : VT := .mk 2 false (-5) ⟨#[]⟩ [] []
def aL : List VR := [(sK10, aT1), (sK2, aT2)]
def aS : List VR := [(sK2, aT2), (sK10, aT1)]
def aM : VT := mapT aS
theorem aw_nat : natC [107, 50] [107, 49, 48] < 0 := by decide +kernel
theorem aw_sort : sortN nmR aL = aS := by
  have e : sortN nmR aL = insN nmR (sK2, aT2) [(sK10, aT1)] := rfl
  rw [e, insN, if_pos aw_nat]
  rfl
theorem aw_v1 : validF aT1 = 0 ∧ levelsF aT1 = 1 := by decide +kernel
theorem aw_v2 : validF aT2 = 0 ∧ levelsF aT2 = 1 := by decide +kernel
theorem aw_mapE : mapE aL = 0 := (mapE_iff aL).2 ⟨by decide, fun x hx => by
  rcases List.mem_cons.1 hx with rfl | hx
  · exact ⟨by decide, aw_v1.1, by rw [aw_v1.2]; decide⟩
  · rw [List.mem_singleton.1 hx]
    exact ⟨by decide, aw_v2.1, by rw [aw_v2.2]; decide⟩, by decide⟩
theorem aw_mapF : mapF aL = aM := by unfold mapF aM; rw [if_pos aw_mapE, aw_sort]
theorem aw_valid : validF aM = 0 := by rw [← aw_mapF]; exact map_valid aw_mapE
theorem aw_dec (v : Nat) (h : v < 10) : Lib.decDigits v = [UInt8.ofNat (48 + v)] := by rw [Lib.decDigits, dif_pos h]
theorem aw_lit5 : litF aT5 = [45, 53] := by
  rw [litF_eqn]
  show Lib.itoa (-5) = _
  unfold Lib.itoa
  rw [if_pos (by decide), aw_dec _ (by decide)]
  rfl
theorem aw_lit1 : litF aT1 = [49] := by
  rw [litF_eqn]
  show Lib.itoa 1 = _
  unfold Lib.itoa
  rw [if_neg (by decide), aw_dec _ (by decide)]
  rfl
theorem aw_text : textF aT5 = ([45, 53], 0) := by
  have h : validF aT5 = 0 := by decide +kernel
  unfold textF
  rw [if_neg (by decide), if_neg (fun k => k h), if_neg (by decide), if_neg (by decide), aw_lit5]
theorem aw_get : getF aM sK10 = some aT1 := by
  unfold getF
  rw [if_pos (show aM.kind = 5 from rfl)]
  show (keyPl sK10 [sK2, sK10]).bind (fun i => [aT2, aT1][i]?) = _
  rw [keyPl, if_neg (by decide), keyPl, if_pos rfl]
  rfl
theorem aw_vars : varsE aM = 0 ∧ varsL aM = aS := by
  have h : varsE aM = 0 := by unfold varsE; rw [if_neg (fun k => k aw_valid), if_neg (by decide)]
  exact ⟨h, by unfold varsL; rw [if_pos h]; rfl⟩
theorem aw_lit : litF aM = [123, 34, 107, 50, 34, 58, 32, 34, 97, 34, 44, 32, 34, 107, 49, 48, 34, 58, 32, 49, 125] := by
  rw [litF_eqn, if_neg (by decide), if_neg (by decide), if_neg (by decide), if_neg (by decide), if_pos (by decide)]
  show 123 :: (joinT [itemF sK2 (litF aT2), itemF sK10 (litF aT1)] ++ [125]) = _
  rw [aw_lit1]
  decide +kernel
theorem aw_show : showT aM = [123, 34, 107, 50, 34, 58, 32, 34, 97, 34, 44, 32, 34, 107, 49, 48, 34, 58, 32, 49, 125] := by
  unfold showT; rw [if_pos aw_valid, aw_lit]
theorem aw_cmp : cmpV aT1 aM = -1 := by
  rw [cmpV_kind (by decide)]
  rfl
theorem aw_self : cmpV aM aM = 0 := cmpV_po.refl aM
end Go.Proofs.YtbndgmbjfgmdnaaGreatDoor
/- An argument that is a value, opened as a tree. -/
namespace Go.Proofs.YtbndgmbjfgmdnaaGreatDoor
open Go.ChangeShapes Go.WideShapes Go.Deep Go.RowKit

/-- the sizes that any memory has -/
def isI (n : Int) : Prop := -9223372036854775808 ≤ n ∧ n ≤ 9223372036854775807
mutual
def VT.wf : VT → Prop
  | .mk k _ n s L ks => isI k ∧ isI n ∧ s.size ≤ 9223372036854775807 ∧ L.length ≤ 9223372036854775807 ∧ ks.length ≤ 9223372036854775807 ∧ (∀ x ∈ ks, x.size ≤ 9223372036854775807) ∧ wfL L
def wfL : List VT → Prop
  | [] => True
  | t :: L => t.wf ∧ wfL L
end
theorem wfL_iff : ∀ L : List VT, wfL L ↔ ∀ t ∈ L, t.wf
  | [] => by simp [wfL]
  | t :: L => by rw [wfL, wfL_iff L]; simp
theorem VT.wf_parts {t : VT} (h : t.wf) : isI t.kind ∧ isI t.int ∧ t.str.size ≤ 9223372036854775807 ∧ t.list.length ≤ 9223372036854775807 ∧ t.keys.length ≤ 9223372036854775807 ∧ (∀ x ∈ t.keys, x.size ≤ 9223372036854775807) ∧ ∀ x ∈ t.list, x.wf := by
  cases t
  rw [VT.wf, wfL_iff] at h
  exact h

section
variable {H : Type} {enc : TypeId × Value → H} {P : Program} {w : World}
theorem list_ofV {α : Type} {R : Nat → α → Prop} : ∀ n : Nat, (∀ i, i < n → ∃ q, R i q) → ∃ qs : List α, qs.length = n ∧ ∀ (i : Nat) (h : i < qs.length), R i qs[i]
  | 0, _ => ⟨[], rfl, fun i h => by cases h⟩
  | n + 1, hR => by
    obtain ⟨qs, hl, hq⟩ := list_ofV n fun i hi => hR i (by omega)
    obtain ⟨q, hq'⟩ := hR n (by omega)
    refine ⟨qs ++ [q], by simp [hl], fun i h => ?_⟩
    by_cases hi : i < qs.length
    · rw [List.getElem_append_left hi]; exact hq i hi
    · have : i = n := by simp at h; omega
      subst this
      rw [List.getElem_append_right (by omega)]
      simp [hl]
      exact hq'
theorem six_of {l : List Value} (h : l.length = 6) : ∃ a b c d e f, l = [a, b, c, d, e, f] := by
  match l, h with
  | [a, b, c, d, e, f], _ => exact ⟨a, b, c, d, e, f, rfl⟩
/-- one field of a struct: a cell of its own -/
theorem field_atV {fs : Array Field} {n : Nat} {cs : List Value} {xs : List (DataW H × List MemPlace)} {i t : Nat} (hl : xs.length = fs.size)
    (hf : ∀ (i : Nat) (f : Field), fs[i]? = some f → DataW.trod enc P w 0 (fun _ => true) true n f.type ((cs.drop f.offset).take (P.cellsOf f.type)) = xs[i]?)
    (hfd : (fs[i]?).map (fun f => (f.type, f.offset)) = some (t, i)) (ht : P.cellsOf t = 1) : ∃ x, DataW.trod enc P w 0 (fun _ => true) true n t ((cs.drop i).take 1) = some x := by
  cases hfi : fs[i]? with
  | none => rw [hfi] at hfd; cases hfd
  | some f =>
    rw [hfi] at hfd
    simp only [Option.map_some, Option.some.injEq, Prod.mk.injEq] at hfd
    have h1 := hf i f hfi
    rw [hfd.1, hfd.2, ht] at h1
    have hi : i < xs.length := by rw [hl]; exact (Array.getElem?_eq_some_iff.1 hfi).1
    exact ⟨xs[i], h1.trans (List.getElem?_eq_getElem hi)⟩
/-- where a cell lies -/
theorem place_of {b off : Nat} {sp : Option Nat} {u : Value} (hc0 : w.cell? ⟨b, off, sp⟩ = some u) : sp = none ∧ b < w.heap.size := by
  constructor
  · unfold World.cell? at hc0
    split at hc0
    · split at hc0
      · cases hc0
      · rename_i h; simpa using h
    · cases hc0
  · unfold World.cell? at hc0
    cases hb : w.heap[b]? with
    | none => simp only [hb] at hc0; cases hc0
    | some o => exact (Array.getElem?_eq_some_iff.1 hb).1
/-- a slice of strings, as a cell -/
theorem open_strsV {t : TypeId} (ht : P.underlying t = some (.slice 9)) (h9 : P.underlying 9 = some .string) (hc : P.cellsOf 9 = 1) {n : Nat} {cs : List Value} {x : DataW H × List MemPlace} (hf : DataW.trod enc P w 0 (fun _ => true) true n t cs = some x) :
    ∃ v ss, cs = [v] ∧ StrsAt w v ss ∧ (∀ s ∈ ss, s.size ≤ 9223372036854775807) ∧ ss.length ≤ 9223372036854775807 := by
  rcases open_strings ht h9 hc hf with ⟨hcs, _⟩ | ⟨a, len, cap, ss, hcs, _, hl, hm, hz, _, hcell, hws⟩
  · exact ⟨_, [], hcs, .inl ⟨_, _, rfl, rfl⟩, fun s h => (by cases h), by decide⟩
  · simp only [if_true] at hz
    have hlen : (ss.take len).length = len := by simp; omega
    have hml : len ≤ 9223372036854775807 := Nat.le_trans hl hm
    have key : ∀ i, i < len → w.cell? (a.add i) = some (.string ((ss.take len).getD i ByteArray.empty)) := by
      intro i hi
      rw [hcell i (by omega)]
      simp [List.getD, hi]
    by_cases h0 : len = 0
    · subst h0
      exact ⟨_, [], hcs, .inl ⟨_, _, rfl, rfl⟩, fun s h => (by cases h), by decide⟩
    · obtain ⟨b, off, sp⟩ := a
      have hc0 := key 0 (by omega)
      rw [show (⟨b, off, sp⟩ : Addr).add 0 = ⟨b, off, sp⟩ from rfl] at hc0
      obtain ⟨rfl, hb⟩ := place_of hc0
      refine ⟨_, ss.take len, hcs, .inr ⟨b, off, cap, by rw [hlen], hb, by rw [hlen]; omega, fun i hi => ?_⟩, fun s hs => hws s (List.mem_of_mem_take hs), by rw [hlen]; exact hml⟩
      rw [← key i (by omega)]
      congr 1
      unfold Addr.add
      split
      · rename_i h; subst h; rfl
      · rfl

/-- what the program's table says of the type of values -/
structure VTypes (P : Program) (tV tL tK : TypeId) : Prop where
  st : ∃ fs, P.underlying tV = some (.struct fs) ∧ (fs[0]?).map (fun f => (f.type, f.offset)) = some (3, 0) ∧ (fs[1]?).map (fun f => (f.type, f.offset)) = some (4, 1) ∧ (fs[2]?).map (fun f => (f.type, f.offset)) = some (3, 2) ∧
    (fs[3]?).map (fun f => (f.type, f.offset)) = some (9, 3) ∧ (fs[4]?).map (fun f => (f.type, f.offset)) = some (tL, 4) ∧ (fs[5]?).map (fun f => (f.type, f.offset)) = some (tK, 5)
  c : P.cellsOf tV = 6 ∧ P.cellsOf 3 = 1 ∧ P.cellsOf 4 = 1 ∧ P.cellsOf 9 = 1 ∧ P.cellsOf tL = 1 ∧ P.cellsOf tK = 1
  u : P.underlying 3 = some (.int .i64) ∧ P.underlying 4 = some .bool ∧ P.underlying 9 = some .string ∧ P.underlying tL = some (.slice tV) ∧ P.underlying tK = some (.slice 9)
theorem wf_int {n : Int} (h : (Lit.int .i64 n).wf = true) : isI n := by
  unfold Lit.wf at h
  unfold isI
  have e1 : IntKind.i64.min = -9223372036854775808 := rfl
  have e2 : IntKind.i64.max = 9223372036854775807 := rfl
  simp [e1, e2] at h
  omega

/-- a slice of things of six cells or seven, each read at less fuel -/
theorem row_of {α : Type} {R : List Value → α → Prop} {sz : Nat} {t e : TypeId} (hC : P.cellsOf e = sz) (ht : P.underlying t = some (.slice e)) {n : Nat} {v : Value} {x : DataW H × List MemPlace} (hsz : 0 < sz)
    (hne : ∀ cs a, R cs a → cs.length = sz)
    (hel : ∀ (m : Nat) (cs : List Value) (y : DataW H × List MemPlace), m < n → DataW.trod enc P w 0 (fun _ => true) true m e cs = some y → ∃ a : α, R cs a)
    (h : DataW.trod enc P w 0 (fun _ => true) true n t [v] = some x) :
    ∃ L : List α, L.length ≤ 9223372036854775807 ∧ ((∃ ao cap, v = .slice ao 0 cap ∧ L = []) ∨ ∃ bl off cap, v = .slice (some ⟨bl, off, none⟩) L.length cap ∧ bl < w.heap.size ∧ L.length ≤ cap ∧
      ∀ k (hk : k < L.length), ∃ cs, (∀ j u, cs[j]? = some u → w.cell? ⟨bl, off + k * sz + j, none⟩ = some u) ∧ R cs L[k]) := by
  rcases DataW.trod_slice ht h with ⟨hcs, _⟩ | ⟨a, len, cap, elems, rest, m, rfl, hcs, _, _, hlc, hcm, hel2, hi, _, _⟩
  · injection hcs with hv
    exact ⟨[], by simp, .inl ⟨none, 0, hv, rfl⟩⟩
  · injection hcs with hv
    subst hv
    have hml : len ≤ 9223372036854775807 := Nat.le_trans hlc hcm
    rw [hC] at hi
    obtain ⟨L, hLl, hL⟩ := list_ofV (R := fun i (q : α) => ∃ cs, (∀ j u, cs[j]? = some u → w.cell? ((a.add (i * sz)).add j) = some u) ∧ R cs q) len (fun i him => by
      have h1 := hi i him
      rw [List.getElem?_eq_getElem (by rw [hel2]; exact him)] at h1
      obtain ⟨cs', hc, ht'⟩ := Option.bind_eq_some_iff.1 h1
      obtain ⟨y, hy⟩ := hel m cs' _ (Nat.lt_succ_self _) ht'
      obtain ⟨_, hcl, hat⟩ := World.cells?_some hc
      refine ⟨y, cs', fun j u hj => ?_, hy⟩
      have hjl := (List.getElem?_eq_some_iff.1 hj).1
      rw [hne cs' y hy] at hjl
      rw [hat j hjl, hj])
    refine ⟨L, by rw [hLl]; exact hml, ?_⟩
    by_cases h0 : len = 0
    · subst h0
      exact .inl ⟨_, _, rfl, List.length_eq_zero_iff.1 hLl⟩
    · obtain ⟨b, off, sp⟩ := a
      obtain ⟨cs, hc0, hr0⟩ := hL 0 (by omega)
      have hl6 := hne _ _ hr0
      have hq := hc0 0 (cs[0]'(by omega)) (List.getElem?_eq_getElem _)
      rw [Nat.zero_mul, show ((⟨b, off, sp⟩ : Addr).add 0).add 0 = ⟨b, off, sp⟩ from rfl] at hq
      obtain ⟨rfl, hbl⟩ := place_of hq
      refine .inr ⟨b, off, cap, by rw [hLl], hbl, by rw [hLl]; exact hlc, fun k hk => ?_⟩
      obtain ⟨cs2, h1, h2⟩ := hL k hk
      refine ⟨cs2, fun j u hu => ?_, h2⟩
      have := h1 j u hu
      rw [Addr.add_lit, Addr.add_lit] at this
      exact this
theorem vcell_len {t : VT} {cs : List Value} (h : VCell w t cs) : cs.length = 6 := by
  cases t
  rw [vcell_mk] at h
  obtain ⟨lv, kv, rfl, _⟩ := h
  rfl
theorem value_of {tV tL tK : TypeId} (hT : VTypes P tV tL tK) : ∀ (n : Nat) (cs : List Value) (x : DataW H × List MemPlace), DataW.trod enc P w 0 (fun _ => true) true n tV cs = some x → ∃ t : VT, VCell w t cs ∧ t.wf := by
  obtain ⟨⟨fs, he, f0, f1, f2, f3, f4, f5⟩, ⟨cV, c3, c4, c9, cL, cK⟩, u3, u4, u9, uL, uK⟩ := hT
  intro n
  induction n using Nat.strongRecOn with
  | _ n ih =>
    intro cs x hx
    obtain ⟨xs, m, rfl, _, hlen, hxl, hf⟩ := DataW.trod_struct he hx
    rw [cV] at hlen
    obtain ⟨a, b, c, d, e, f, rfl⟩ := six_of hlen
    obtain ⟨x0, g0⟩ := field_atV hxl hf f0 c3
    obtain ⟨x1, g1⟩ := field_atV hxl hf f1 c4
    obtain ⟨x2, g2⟩ := field_atV hxl hf f2 c3
    obtain ⟨x3, g3⟩ := field_atV hxl hf f3 c9
    obtain ⟨x4, g4⟩ := field_atV hxl hf f4 cL
    obtain ⟨x5, g5⟩ := field_atV hxl hf f5 cK
    obtain ⟨k, e0, _, w0⟩ := DataW.trod_int u3 g0
    obtain ⟨bv, e1, _⟩ := DataW.trod_bool u4 g1
    obtain ⟨i, e2, _, w2⟩ := DataW.trod_int u3 g2
    obtain ⟨s, e3, _, w3⟩ := DataW.trod_string u9 g3
    obtain ⟨kv, ks, e5, hks, hkz, hkl⟩ := open_strsV uK u9 c9 g5
    obtain ⟨L, hLl, hL⟩ := row_of (R := fun cs (t : VT) => VCell w t cs ∧ t.wf) cV uL (by decide) (fun cs t h => vcell_len h.1) (fun m' cs y hm hy => ih m' (by omega) cs y hy) (show DataW.trod enc P w 0 (fun _ => true) true m tL [e] = some x4 from g4)
    simp at e0 e1 e2 e3 e5
    subst e0 e1 e2 e3 e5
    have hwl : ∀ t ∈ L, t.wf := fun t ht => by
      obtain ⟨j, hj, rfl⟩ := List.getElem_of_mem ht
      rcases hL with ⟨_, _, _, rfl⟩ | ⟨_, _, _, _, _, _, hr⟩
      · cases hj
      · obtain ⟨_, _, h⟩ := hr j hj
        exact h.2
    refine ⟨.mk k bv i s L ks, vcell_mk.2 ⟨e, f, rfl, hks, ?_⟩, ?_⟩
    · rcases hL with h | ⟨bl, off, cap, h1, h2, h3, h4⟩
      · exact .inl h
      · exact .inr ⟨bl, off, cap, h1, h2, h3, VRow.make fun j hj => by
          obtain ⟨cs, q1, q2, _⟩ := h4 j hj
          exact ⟨cs, q1, q2⟩⟩
    · rw [VT.wf, wfL_iff]
      exact ⟨wf_int w0, wf_int w2, w3, hLl, hkl, hkz, hwl⟩
end
end Go.Proofs.YtbndgmbjfgmdnaaGreatDoor
/- Orders of lists, step by step; sizes that a value's slices have; no program in sight. -/
namespace Go.Proofs.YtbndgmbjfgmdnaaGreatDoor

/-! ### the order of lists in steps -/
theorem lexC_end {α : Type} {C : α → α → Int} (xs ys : List α) : lexC C (xs.drop xs.length) (ys.drop xs.length) = if xs.length < ys.length then -1 else 0 := by
  rw [List.drop_length]
  by_cases h : xs.length < ys.length
  · rw [if_pos h, List.drop_eq_getElem_cons h, lexC]
  · rw [if_neg h, List.drop_of_length_le (by omega), lexC]
theorem lexC_over {α : Type} {C : α → α → Int} {xs ys : List α} {i : Nat} (h : i < xs.length) (k : ys.length ≤ i) : lexC C (xs.drop i) (ys.drop i) = 1 := by
  rw [List.drop_eq_getElem_cons h, List.drop_of_length_le k, lexC]
theorem lexC_step {α : Type} {C : α → α → Int} {xs ys : List α} {i : Nat} (h : i < xs.length) (k : i < ys.length) : lexC C (xs.drop i) (ys.drop i) = if C xs[i] ys[i] = 0 then lexC C (xs.drop (i + 1)) (ys.drop (i + 1)) else C xs[i] ys[i] := by
  rw [List.drop_eq_getElem_cons h, List.drop_eq_getElem_cons k, lexC]
theorem cmpV_rng (a b : VT) : cmpV a b = -1 ∨ cmpV a b = 0 ∨ cmpV a b = 1 := cmpV_po.rng a b
theorem keyC_def (a b : List ByteArray) : keyC a b = lexC (fun x y : ByteArray => natC x.data.toList y.data.toList) a b := by
  unfold keyC
  induction a generalizing b with
  | nil => cases b <;> rfl
  | cons x a ih =>
    cases b with
    | nil => rfl
    | cons y b =>
      rw [List.map_cons, List.map_cons, lexC, lexC, ih b]

/-! ### the sizes that any memory has, in bytes -/
mutual
def VT.fit : VT → Prop
  | .mk _ _ _ _ L ks => L.length * 88 ≤ 140737488355328 ∧ ks.length * 16 ≤ 140737488355328 ∧ fitL L
def fitL : List VT → Prop
  | [] => True
  | t :: L => t.fit ∧ fitL L
end
theorem fitL_iff : ∀ L : List VT, fitL L ↔ ∀ t ∈ L, t.fit
  | [] => by simp [fitL]
  | t :: L => by rw [fitL, fitL_iff L]; simp
theorem VT.fit_parts {t : VT} (h : t.fit) : t.list.length * 88 ≤ 140737488355328 ∧ t.keys.length * 16 ≤ 140737488355328 ∧ ∀ x ∈ t.list, x.fit := by
  cases t
  rw [VT.fit, fitL_iff] at h
  exact h
/-- a valid value is small enough -/
theorem fit_check : ∀ (n lv : Nat) (t : VT), t.depth ≤ n → checkF lv t = 0 → t.fit
  | 0, _, t, h, _ => by have := depth_pos t; omega
  | n + 1, lv, t, hd, h => by
    obtain ⟨hn, hc⟩ := check_zero h
    obtain ⟨_, _, _, _, _, _, _, h1, h2, _⟩ := node_zero hn
    have hd2 := depth_list t
    cases t with
    | mk k b i s L ks =>
      rw [VT.fit, fitL_iff]
      refine ⟨?_, ?_, fun x hx => fit_check n (lv + 1) x ?_ (hc x hx)⟩
      · have : L.length ≤ 1024 := h1
        omega
      · have : ks.length ≤ 1024 := h2
        omega
      · have := depthL_mem hx
        have : depthL L < _ := hd2
        omega
theorem fit_valid {t : VT} (h : validF t = 0) : t.fit := fit_check _ 1 t (Nat.le_refl _) h
end Go.Proofs.YtbndgmbjfgmdnaaGreatDoor
/- Slices of things that lie in several cells each, with the blocks that they reach; lists that grow by append. Plain: no program in sight. -/
namespace Go.Proofs.YtbndgmbjfgmdnaaGreatDoor
open Go.RowKit

/-- a thing that lies in some cells behind each other, and reaches other blocks -/
structure ElemK (α : Type) where
  sz : Nat
  R : (Nat → Prop) → World → α → List Value → Prop
  pos : 0 < sz
  len : ∀ {B : Nat → Prop} {w : World} {a : α} {cs : List Value}, R B w a cs → cs.length = sz
  one : ∀ {B : Nat → Prop} {w : World} {a : α} {cs : List Value}, R B w a cs → ∀ u ∈ cs, u.oneCell' = true
  mono : ∀ {B B' : Nat → Prop} {w : World} {a : α} {cs : List Value}, R B w a cs → (∀ b, B b → B' b) → R B' w a cs
  lt : ∀ {B : Nat → Prop} {w : World} {a : α} {cs : List Value}, R B w a cs → R (fun b => B b ∧ b < w.heap.size) w a cs
  keep : ∀ {B : Nat → Prop} {w w1 : World} {a : α} {cs : List Value}, R B w a cs → w.heap.size ≤ w1.heap.size → (∀ b, B b → b < w.heap.size → w1.heap[b]? = w.heap[b]?) → R B w1 a cs

section
variable {α β : Type} (E : ElemK α) (F : ElemK β)
/-- a slice of such things that can be read; every block that it reaches meets B -/
def ElemK.Row (B : Nat → Prop) (w : World) (L : List α) (v : Value) : Prop :=
  (∃ ao cap, v = .slice ao 0 cap ∧ L = []) ∨ ∃ bl off cap, v = .slice (some ⟨bl, off, none⟩) L.length cap ∧ B bl ∧ bl < w.heap.size ∧ L.length ≤ cap ∧
    ∀ (k : Nat) (hk : k < L.length), ∃ cs, (∀ j u, cs[j]? = some u → w.cell? ⟨bl, off + k * E.sz + j, none⟩ = some u) ∧ E.R B w L[k] cs
variable {E F}
theorem ElemK.R.below {B : Nat → Prop} {w w1 : World} {a : α} {cs : List Value} (h : E.R B w a cs) (hb : Below w.heap.size w w1) : E.R B w1 a cs := E.keep h hb.size fun b _ hl => hb.block b hl
theorem ElemK.Row.mono {B B' : Nat → Prop} {w : World} {L : List α} {v : Value} (h : E.Row B w L v) (hB : ∀ b, B b → B' b) : E.Row B' w L v := by
  rcases h with h | ⟨bl, off, cap, h1, h2, h3, h4, h5⟩
  · exact .inl h
  · exact .inr ⟨bl, off, cap, h1, hB _ h2, h3, h4, fun k hk => by
      obtain ⟨cs, c1, c2⟩ := h5 k hk
      exact ⟨cs, c1, E.mono c2 hB⟩⟩
theorem ElemK.Row.lt {B : Nat → Prop} {w : World} {L : List α} {v : Value} (h : E.Row B w L v) : E.Row (fun b => B b ∧ b < w.heap.size) w L v := by
  rcases h with h | ⟨bl, off, cap, h1, h2, h3, h4, h5⟩
  · exact .inl h
  · exact .inr ⟨bl, off, cap, h1, ⟨h2, h3⟩, h3, h4, fun k hk => by
      obtain ⟨cs, c1, c2⟩ := h5 k hk
      exact ⟨cs, c1, E.lt c2⟩⟩
theorem ElemK.Row.keep {B : Nat → Prop} {w w1 : World} {L : List α} {v : Value} (h : E.Row B w L v) (hs : w.heap.size ≤ w1.heap.size) (hb : ∀ b, B b → b < w.heap.size → w1.heap[b]? = w.heap[b]?) : E.Row B w1 L v := by
  rcases h with h | ⟨bl, off, cap, h1, h2, h3, h4, h5⟩
  · exact .inl h
  · exact .inr ⟨bl, off, cap, h1, h2, Nat.lt_of_lt_of_le h3 hs, h4, fun k hk => by
      obtain ⟨cs, c1, c2⟩ := h5 k hk
      exact ⟨cs, fun j u hu => (World.cell?_of_block (a := ⟨bl, off + k * E.sz + j, none⟩) (hb bl h2 h3)).trans (c1 j u hu), E.keep c2 hs hb⟩⟩
theorem ElemK.Row.below {B : Nat → Prop} {w w1 : World} {L : List α} {v : Value} (h : E.Row B w L v) (hb : Below w.heap.size w w1) : E.Row B w1 L v := h.keep hb.size fun b _ hl => hb.block b hl
theorem ElemK.Row.form {B : Nat → Prop} {w : World} {L : List α} {v : Value} (h : E.Row B w L v) : ∃ ao cap, v = .slice ao L.length cap := by
  rcases h with ⟨ao, cap, rfl, rfl⟩ | ⟨bl, off, cap, rfl, _⟩
  · exact ⟨ao, cap, rfl⟩
  · exact ⟨_, cap, rfl⟩
theorem ElemK.Row.at {B : Nat → Prop} {w : World} {L : List α} {ao : Option Addr} {n cap : Nat} (h : E.Row B w L (.slice ao n cap)) {k : Nat} (hk : k < L.length) :
    ∃ bl off cs, ao = some ⟨bl, off, none⟩ ∧ B bl ∧ bl < w.heap.size ∧ (∀ j u, cs[j]? = some u → w.cell? ⟨bl, off + k * E.sz + j, none⟩ = some u) ∧ E.R B w L[k] cs := by
  rcases h with ⟨_, _, _, rfl⟩ | ⟨bl, off, c, e, h2, h3, h4, h5⟩
  · cases hk
  · injection e with e1 e2 e3
    obtain ⟨cs, c1, c2⟩ := h5 k hk
    exact ⟨bl, off, cs, e1, h2, h3, c1, c2⟩
theorem ElemK.Row.nil {B : Nat → Prop} {w : World} {ao : Option Addr} {cap : Nat} : E.Row B w [] (.slice ao 0 cap) := .inl ⟨ao, cap, rfl, rfl⟩

variable (E F) in
/-- slices of such things, as one cell -/
def ElemK.sl : ElemK (List α) where
  sz := 1
  R B w L cs := ∃ v, cs = [v] ∧ E.Row B w L v
  pos := by decide
  len := by rintro B w a cs ⟨v, rfl, _⟩; rfl
  one := by
    rintro B w a cs ⟨v, rfl, h⟩ u hu
    obtain ⟨ao, cap, rfl⟩ := h.form
    rw [List.mem_singleton.1 hu]
    rfl
  mono := by rintro B B' w a cs ⟨v, rfl, h⟩ hB; exact ⟨v, rfl, h.mono hB⟩
  lt := by rintro B w a cs ⟨v, rfl, h⟩; exact ⟨v, rfl, h.lt⟩
  keep := by rintro B w w1 a cs ⟨v, rfl, h⟩ hs hb; exact ⟨v, rfl, h.keep hs hb⟩
variable (E F) in
/-- one thing behind the other -/
def ElemK.two : ElemK (α × β) where
  sz := E.sz + F.sz
  R B w x cs := ∃ c1 c2, cs = c1 ++ c2 ∧ E.R B w x.1 c1 ∧ F.R B w x.2 c2
  pos := by have := E.pos; omega
  len := by rintro B w a cs ⟨c1, c2, rfl, h1, h2⟩; rw [List.length_append, E.len h1, F.len h2]
  one := by
    rintro B w a cs ⟨c1, c2, rfl, h1, h2⟩ u hu
    rcases List.mem_append.1 hu with hu | hu
    · exact E.one h1 u hu
    · exact F.one h2 u hu
  mono := by rintro B B' w a cs ⟨c1, c2, rfl, h1, h2⟩ hB; exact ⟨c1, c2, rfl, E.mono h1 hB, F.mono h2 hB⟩
  lt := by rintro B w a cs ⟨c1, c2, rfl, h1, h2⟩; exact ⟨c1, c2, rfl, E.lt h1, F.lt h2⟩
  keep := by rintro B w w1 a cs ⟨c1, c2, rfl, h1, h2⟩ hs hb; exact ⟨c1, c2, rfl, E.keep h1 hs hb, F.keep h2 hs hb⟩
end
/-- things that are one cell and reach no block -/
def cellK {α : Type} (f : α → Value) (h1 : ∀ a, (f a).oneCell' = true) : ElemK α where
  sz := 1
  R _ _ a cs := cs = [f a]
  pos := by decide
  len := by rintro B w a cs rfl; rfl
  one := by rintro B w a cs rfl u hu; rw [List.mem_singleton.1 hu]; exact h1 a
  mono := fun h _ => h
  lt := fun h => h
  keep := fun h _ _ => h
def EStr : ElemK ByteArray := cellK .string fun _ => rfl
def EInt : ElemK Int := cellK (.int .i64) fun _ => rfl
def EBool : ElemK Bool := cellK .bool fun _ => rfl

theorem strs_row {B : Nat → Prop} {w : World} {v : Value} {ss : List ByteArray} (h : EStr.Row B w ss v) : StrsAt w v ss := by
  rcases h with h | ⟨bl, off, cap, h1, _, h3, h4, h5⟩
  · exact .inl h
  · refine .inr ⟨bl, off, cap, h1, h3, h4, fun i hi => ?_⟩
    obtain ⟨cs, c1, rfl⟩ := h5 i hi
    have := c1 0 _ rfl
    rw [show EStr.sz = 1 from rfl, Nat.mul_one, Nat.add_zero] at this
    rw [List.getD, List.getElem?_eq_getElem hi]
    exact this
theorem row_strs {w : World} {v : Value} {ss : List ByteArray} (h : StrsAt w v ss) : EStr.Row (fun b => b < w.heap.size) w ss v := by
  rcases h with h | ⟨bl, off, cap, h1, h3, h4, h5⟩
  · exact .inl h
  · refine .inr ⟨bl, off, cap, h1, h3, h3, h4, fun i hi => ⟨[.string ss[i]], fun j u hu => ?_, rfl⟩⟩
    have hj : j = 0 := by
      have := (List.getElem?_eq_some_iff.1 hu).1
      simpa using this
    subst hj
    injection hu with hu
    subst hu
    have := h5 i hi
    rw [List.getD, List.getElem?_eq_getElem hi] at this
    rw [show EStr.sz = 1 from rfl, Nat.mul_one, Nat.add_zero]
    exact this

/-! ### lists that grow by append -/
section
variable {α : Type} (E : ElemK α)
/-- a slice that is the call's own, in a row of its own, with room behind it -/
def ElemK.Own (e : TypeId) (base : Nat) (B : Nat → Prop) (w : World) (L : List α) (v : Value) : Prop :=
  ∃ css : List (List Value), css.length = L.length ∧ (∀ (k : Nat) (h1 : k < L.length) (h2 : k < css.length), E.R (fun b => B b ∧ v.ownBlock ≠ some b) w L[k] css[k]) ∧ w.ownsRow base e E.sz v L.length css.flatten
variable {E} {e : TypeId} {base : Nat} {B : Nat → Prop} {w w1 : World} {L : List α} {v : Value}
theorem ElemK.Own.nil : E.Own e base B w [] (.slice none 0 0) := ⟨[], rfl, fun k h _ => absurd h (Nat.not_lt_zero k), World.ownsRow_nil _ _ _ _⟩
theorem ElemK.Own.form (h : E.Own e base B w L v) : ∃ ao cap, v = .slice ao L.length cap := by
  obtain ⟨css, _, _, h3⟩ := h
  exact ownsRow_form h3
theorem ElemK.Own.low (h : E.Own e base B w L v) : ∀ k, v.ownBlock = some k → base ≤ k ∧ k < w.heap.size := by
  obtain ⟨css, _, _, h3⟩ := h
  exact h3.lt
theorem ElemK.Own.mono {B' : Nat → Prop} (h : E.Own e base B w L v) (hB : ∀ b, B b → B' b) : E.Own e base B' w L v := by
  obtain ⟨css, h1, h2, h3⟩ := h
  exact ⟨css, h1, fun k a b => E.mono (h2 k a b) fun b hb => ⟨hB b hb.1, hb.2⟩, h3⟩
theorem ElemK.Own.keep (h : E.Own e base B w L v) (hg : w.grownBy w1 none) : E.Own e base B w1 L v := by
  obtain ⟨css, h1, h2, h3⟩ := h
  exact ⟨css, h1, fun k a b => E.keep (h2 k a b) hg.size fun b _ hl => hg.block b hl (by simp), h3.kept hg (by cases v.ownBlock <;> simp)⟩
theorem ElemK.Own.below (h : E.Own e base B w L v) (hb : Below w.heap.size w w1) : E.Own e base B w1 L v :=
  h.keep ⟨hb.os, hb.tape, hb.output, hb.size, fun k hk _ => hb.block k hk⟩
theorem ElemK.Own.drew (h : E.Own e base B w L v) : E.Own e base B w.drew L v := h.keep ⟨rfl, rfl, rfl, Nat.le_refl _, fun _ _ _ => rfl⟩
/-- a store elsewhere -/
theorem ElemK.Own.wrote {b : Nat} {o : Obj} (h : E.Own e base B w L v) (hw : Wrote b o w w1) (hv : v.ownBlock ≠ some b) (hB : ∀ c, B c → c ≠ b) : E.Own e base B w1 L v := by
  obtain ⟨css, h1, h2, h3⟩ := h
  refine ⟨css, h1, fun k a c => E.keep (h2 k a c) (Nat.le_of_eq hw.size.symm) fun d hd _ => hw.block d (hB d hd.1), ?_⟩
  exact h3.kept (row := some b) ⟨hw.os, hw.tape, hw.output, Nat.le_of_eq hw.size.symm, fun k _ hk => hw.block k (fun e => hk (by rw [e]))⟩ (.inr hv)
/-- what is owned can be read -/
theorem flatten_at {sz : Nat} : ∀ (css : List (List Value)) (k : Nat) (hk : k < css.length) (j : Nat) (u : Value), (∀ c ∈ css, c.length = sz) → css[k][j]? = some u → css.flatten[k * sz + j]? = some u
  | c :: css, 0, _, j, u, hs, hu => by
    rw [Nat.zero_mul, Nat.zero_add, List.flatten_cons, List.getElem?_append_left (by rw [List.getElem?_eq_some_iff] at hu; exact hu.1)]
    exact hu
  | c :: css, k + 1, hk, j, u, hs, hu => by
    have hc := hs c (List.mem_cons_self ..)
    rw [List.flatten_cons, List.getElem?_append_right (by rw [hc, Nat.succ_mul]; omega), hc, show (k + 1) * sz + j - sz = k * sz + j by rw [Nat.succ_mul]; omega]
    exact flatten_at css k (by simpa using hk) j u (fun d hd => hs d (List.mem_cons_of_mem _ hd)) hu
theorem ElemK.Own.row (h : E.Own e base B w L v) {B' : Nat → Prop} (hB : ∀ b, B b → B' b) (hb : ∀ b, base ≤ b → B' b) : E.Row B' w L v := by
  obtain ⟨css, h1, h2, h3⟩ := h
  have hlen : ∀ c ∈ css, c.length = E.sz := fun c hc => by
    obtain ⟨k, hk, rfl⟩ := List.getElem_of_mem hc
    exact E.len (h2 k (by omega) hk)
  have h3' := h3
  rcases h3.2 with ⟨rfl, h0⟩ | ⟨g, cap, cur, rfl, hbg, hg, hnc, _⟩
  · have : L = [] := List.length_eq_zero_iff.1 h0
    subst this
    exact .nil
  · refine .inr ⟨g, 0, cap, rfl, hb g hbg, (Array.getElem?_eq_some_iff.1 hg).1, hnc, fun k hk => ⟨css[k]'(by omega), fun j u hu => ?_, E.mono (h2 k hk (by omega)) fun b hb => hB b hb.1⟩⟩
    have := h3'.cells (g := g) rfl (k * E.sz + j) u (flatten_at css k (by omega) j u hlen hu)
    rw [show (⟨g, 0, none⟩ : Addr).add (k * E.sz + j) = ⟨g, k * E.sz + j, none⟩ from by unfold Addr.add; split <;> simp_all] at this
    rw [Nat.zero_add]
    exact this
theorem ElemK.Own.lt (h : E.Own e base B w L v) : E.Own e base (fun b => B b ∧ b < w.heap.size) w L v := by
  obtain ⟨css, h1, h2, h3⟩ := h
  exact ⟨css, h1, fun k a b => E.mono (E.lt (h2 k a b)) fun b hb => ⟨⟨hb.1.1, hb.2⟩, hb.1.2⟩, h3⟩
/-- another row has grown -/
theorem ElemK.Own.kept {row : Option Nat} (h : E.Own e base B w L v) (hg : w.grownBy w1 row) (hv : v.ownBlock = none ∨ v.ownBlock ≠ row) (hB : ∀ b, B b → b < w.heap.size → some b ≠ row) : E.Own e base B w1 L v := by
  obtain ⟨css, h1, h2, h3⟩ := h
  exact ⟨css, h1, fun k a b => E.keep (h2 k a b) hg.size fun b hb hl => hg.block b hl (hB b hb.1 hl), h3.kept hg hv⟩
/-- the cells of a row, side by side -/
theorem list_pick {α : Type} {R : Nat → α → Prop} : ∀ n : Nat, (∀ i, i < n → ∃ q, R i q) → ∃ qs : List α, qs.length = n ∧ ∀ (i : Nat) (h : i < qs.length), R i qs[i]
  | 0, _ => ⟨[], rfl, fun i h => by cases h⟩
  | n + 1, hR => by
    obtain ⟨qs, hl, hq⟩ := list_pick n fun i hi => hR i (by omega)
    obtain ⟨q, hq'⟩ := hR n (by omega)
    refine ⟨qs ++ [q], by simp [hl], fun i h => ?_⟩
    by_cases hi : i < qs.length
    · rw [List.getElem_append_left hi]; exact hq i hi
    · have : i = n := by simp at h; omega
      subst this
      rw [List.getElem_append_right (by omega)]
      simp [hl]
      exact hq'
theorem flatten_inv {sz : Nat} : ∀ (css : List (List Value)), (∀ c ∈ css, c.length = sz) → ∀ (j : Nat) (u : Value), css.flatten[j]? = some u → ∃ (k r : Nat) (hk : k < css.length), j = k * sz + r ∧ css[k][r]? = some u
  | [], _, j, u, h => by simp at h
  | c :: css, hs, j, u, h => by
    have hc := hs c (List.mem_cons_self ..)
    rw [List.flatten_cons] at h
    by_cases hj : j < sz
    · rw [List.getElem?_append_left (by rw [hc]; exact hj)] at h
      exact ⟨0, j, by simp, by omega, h⟩
    · rw [List.getElem?_append_right (by rw [hc]; omega), hc] at h
      obtain ⟨k, r, hk, e, h2⟩ := flatten_inv css (fun d hd => hs d (List.mem_cons_of_mem _ hd)) _ u h
      exact ⟨k + 1, r, by simpa using hk, by rw [Nat.succ_mul]; omega, h2⟩
theorem flatten_len {sz : Nat} : ∀ (css : List (List Value)), (∀ c ∈ css, c.length = sz) → css.flatten.length = css.length * sz
  | [], _ => by simp
  | c :: css, hs => by
    rw [List.flatten_cons, List.length_append, flatten_len css fun d hd => hs d (List.mem_cons_of_mem _ hd), hs c (List.mem_cons_self ..), List.length_cons, Nat.succ_mul]
    omega
theorem ElemK.Row.flat {bl off n cap : Nat} (h : E.Row B w L (.slice (some ⟨bl, off, none⟩) n cap)) : ∃ css : List (List Value), css.length = L.length ∧ (∀ (k : Nat) (h1 : k < L.length) (h2 : k < css.length), E.R B w L[k] css[k]) ∧
    (∀ j u, css.flatten[j]? = some u → w.cell? ⟨bl, off + j, none⟩ = some u) ∧ css.flatten.length = L.length * E.sz ∧ ∀ u ∈ css.flatten, u.oneCell' = true := by
  obtain ⟨css, hl, hR⟩ := list_pick (R := fun k (cs : List Value) => ∃ hk : k < L.length, (∀ j u, cs[j]? = some u → w.cell? ⟨bl, off + k * E.sz + j, none⟩ = some u) ∧ E.R B w L[k] cs) L.length (fun k hk => by
    obtain ⟨bl', off', cs, e, _, _, c1, c2⟩ := h.at hk
    injection e with e
    injection e with e1 e2
    subst e1 e2
    exact ⟨cs, hk, c1, c2⟩)
  have hlen : ∀ c ∈ css, c.length = E.sz := fun c hc => by
    obtain ⟨k, hk, rfl⟩ := List.getElem_of_mem hc
    obtain ⟨_, _, h2⟩ := hR k hk
    exact E.len h2
  refine ⟨css, hl, fun k h1 h2 => (hR k h2).2.2, fun j u hu => ?_, by rw [flatten_len css hlen, hl], fun u hu => ?_⟩
  · obtain ⟨k, r, hk, rfl, h2⟩ := flatten_inv css hlen j u hu
    have := (hR k hk).2.1 r u h2
    rw [Nat.add_assoc] at this
    exact this
  · obtain ⟨c, hc, hu⟩ := List.mem_flatten.1 hu
    obtain ⟨k, hk, rfl⟩ := List.getElem_of_mem hc
    exact E.one (hR k hk).2.2 u hu
/-- one thing more -/
theorem ElemK.Own.push {css : List (List Value)} {x : α} {cs : List Value} {g cap : Nat} (hl : css.length = L.length) (hR : ∀ (k : Nat) (h1 : k < L.length) (h2 : k < css.length), E.R (fun b => B b ∧ v.ownBlock ≠ some b) w L[k] css[k])
    (hx : E.R (fun b => B b ∧ v.ownBlock ≠ some b) w x cs) (hg : w.grownBy w1 v.ownBlock) (hat : v.ownBlock = some g ∨ g = w.heap.size)
    (hown : w1.ownsRow base e E.sz (.slice (some ⟨g, 0, none⟩) (L.length + 1) cap) (L.length + 1) (css.flatten ++ cs)) : E.Own e base B w1 (L ++ [x]) (.slice (some ⟨g, 0, none⟩) (L.length + 1) cap) := by
  have key : ∀ (y : α) (c : List Value), E.R (fun b => B b ∧ v.ownBlock ≠ some b) w y c → E.R (fun b => B b ∧ (Value.slice (some ⟨g, 0, none⟩) (L.length + 1) cap).ownBlock ≠ some b) w1 y c := fun y c h => by
    refine E.mono (E.keep (E.lt h) hg.size fun b hb hlt => hg.block b hlt (fun e => hb.1.2 e.symm)) fun b hb => ⟨hb.1.1, fun e => ?_⟩
    have e : g = b := Option.some.inj e
    subst e
    rcases hat with h1 | h1
    · exact hb.1.2 h1
    · exact absurd hb.2 (by omega)
  refine ⟨css ++ [cs], by rw [List.length_append, List.length_append, hl]; rfl, fun k h1 h2 => ?_, ?_⟩
  · by_cases hk : k < L.length
    · rw [List.getElem_append_left hk, List.getElem_append_left (by omega)]
      exact key _ _ (hR k hk (by omega))
    · have : k = L.length := by rw [List.length_append] at h1; simp at h1; omega
      subst this
      rw [List.getElem_append_right (Nat.le_refl _), List.getElem_append_right (by omega)]
      simpa [hl] using key _ _ hx
  · rw [List.length_append, List.flatten_append, List.flatten_cons, List.flatten_nil, List.append_nil]
    exact hown
end
end Go.Proofs.YtbndgmbjfgmdnaaGreatDoor
/- Values in memory, with the blocks that they reach. -/
namespace Go.Proofs.YtbndgmbjfgmdnaaGreatDoor
open Go.RowKit

mutual
/-- six cells that hold a value; every block that it reaches meets B -/
def VCellB (B : Nat → Prop) (w : World) : VT → List Value → Prop
  | .mk k b n s L ks, cs => ∃ lv kv, cs = [.int .i64 k, .bool b, .int .i64 n, .string s, lv, kv] ∧ EStr.Row B w ks kv ∧
      ((∃ ao cap, lv = .slice ao 0 cap ∧ L = []) ∨ ∃ bl off cap, lv = .slice (some ⟨bl, off, none⟩) L.length cap ∧ B bl ∧ bl < w.heap.size ∧ L.length ≤ cap ∧ VRowB B w L bl off)
def VRowB (B : Nat → Prop) (w : World) : List VT → Nat → Nat → Prop
  | [], _, _ => True
  | t :: L, bl, off => (∃ cs, (∀ j u, cs[j]? = some u → w.cell? ⟨bl, off + j, none⟩ = some u) ∧ VCellB B w t cs) ∧ VRowB B w L bl (off + 6)
end
section
variable {B B' : Nat → Prop} {w w1 : World}
mutual
theorem VCellB.mono (hB : ∀ b, B b → B' b) : ∀ (t : VT) (cs : List Value), VCellB B w t cs → VCellB B' w t cs
  | .mk k b n s L ks, cs, h => by
    rw [VCellB] at h ⊢
    obtain ⟨lv, kv, h1, h2, h3⟩ := h
    refine ⟨lv, kv, h1, h2.mono hB, ?_⟩
    rcases h3 with h3 | ⟨bl, off, cap, e, hb, hlt, hc, hr⟩
    · exact .inl h3
    · exact .inr ⟨bl, off, cap, e, hB _ hb, hlt, hc, VRowB.mono hB L bl off hr⟩
theorem VRowB.mono (hB : ∀ b, B b → B' b) : ∀ (L : List VT) (bl off : Nat), VRowB B w L bl off → VRowB B' w L bl off
  | [], _, _, _ => by rw [VRowB]; trivial
  | t :: L, bl, off, h => by
    rw [VRowB] at h ⊢
    obtain ⟨⟨cs, h1, h2⟩, h3⟩ := h
    exact ⟨⟨cs, h1, VCellB.mono hB t cs h2⟩, VRowB.mono hB L bl (off + 6) h3⟩
end
mutual
theorem VCellB.lt : ∀ (t : VT) (cs : List Value), VCellB B w t cs → VCellB (fun b => B b ∧ b < w.heap.size) w t cs
  | .mk k b n s L ks, cs, h => by
    rw [VCellB] at h ⊢
    obtain ⟨lv, kv, h1, h2, h3⟩ := h
    refine ⟨lv, kv, h1, h2.lt, ?_⟩
    rcases h3 with h3 | ⟨bl, off, cap, e, hb, hlt, hc, hr⟩
    · exact .inl h3
    · exact .inr ⟨bl, off, cap, e, ⟨hb, hlt⟩, hlt, hc, VRowB.lt L bl off hr⟩
theorem VRowB.lt : ∀ (L : List VT) (bl off : Nat), VRowB B w L bl off → VRowB (fun b => B b ∧ b < w.heap.size) w L bl off
  | [], _, _, _ => by rw [VRowB]; trivial
  | t :: L, bl, off, h => by
    rw [VRowB] at h ⊢
    obtain ⟨⟨cs, h1, h2⟩, h3⟩ := h
    exact ⟨⟨cs, h1, VCellB.lt t cs h2⟩, VRowB.lt L bl (off + 6) h3⟩
end
mutual
theorem VCellB.keep (hs : w.heap.size ≤ w1.heap.size) (hb : ∀ b, B b → b < w.heap.size → w1.heap[b]? = w.heap[b]?) : ∀ (t : VT) (cs : List Value), VCellB B w t cs → VCellB B w1 t cs
  | .mk k b n s L ks, cs, h => by
    rw [VCellB] at h ⊢
    obtain ⟨lv, kv, h1, h2, h3⟩ := h
    refine ⟨lv, kv, h1, h2.keep hs hb, ?_⟩
    rcases h3 with h3 | ⟨bl, off, cap, e, hB, hlt, hc, hr⟩
    · exact .inl h3
    · exact .inr ⟨bl, off, cap, e, hB, Nat.lt_of_lt_of_le hlt hs, hc, VRowB.keep hs hb L bl off hB hlt hr⟩
theorem VRowB.keep (hs : w.heap.size ≤ w1.heap.size) (hb : ∀ b, B b → b < w.heap.size → w1.heap[b]? = w.heap[b]?) : ∀ (L : List VT) (bl off : Nat), B bl → bl < w.heap.size → VRowB B w L bl off → VRowB B w1 L bl off
  | [], _, _, _, _, _ => by rw [VRowB]; trivial
  | t :: L, bl, off, hB, hlt, h => by
    rw [VRowB] at h ⊢
    obtain ⟨⟨cs, h1, h2⟩, h3⟩ := h
    exact ⟨⟨cs, fun j u hu => (World.cell?_of_block (a := ⟨bl, off + j, none⟩) (hb bl hB hlt)).trans (h1 j u hu), VCellB.keep hs hb t cs h2⟩, VRowB.keep hs hb L bl (off + 6) hB hlt h3⟩
end
mutual
theorem VCellB.cell : ∀ (t : VT) (cs : List Value), VCellB B w t cs → VCell w t cs
  | .mk k b n s L ks, cs, h => by
    rw [VCellB] at h
    rw [VCell]
    obtain ⟨lv, kv, h1, h2, h3⟩ := h
    refine ⟨lv, kv, h1, strs_row h2, ?_⟩
    rcases h3 with h3 | ⟨bl, off, cap, e, hB, hlt, hc, hr⟩
    · exact .inl h3
    · exact .inr ⟨bl, off, cap, e, hlt, hc, VRowB.row L bl off hr⟩
theorem VRowB.row : ∀ (L : List VT) (bl off : Nat), VRowB B w L bl off → VRow w L bl off
  | [], _, _, _ => by rw [VRow]; trivial
  | t :: L, bl, off, h => by
    rw [VRowB] at h
    rw [VRow]
    obtain ⟨⟨cs, h1, h2⟩, h3⟩ := h
    exact ⟨⟨cs, h1, VCellB.cell t cs h2⟩, VRowB.row L bl (off + 6) h3⟩
end
mutual
theorem VCell.low : ∀ (t : VT) (cs : List Value), VCell w t cs → VCellB (fun b => b < w.heap.size) w t cs
  | .mk k b n s L ks, cs, h => by
    rw [VCell] at h
    rw [VCellB]
    obtain ⟨lv, kv, h1, h2, h3⟩ := h
    refine ⟨lv, kv, h1, row_strs h2, ?_⟩
    rcases h3 with h3 | ⟨bl, off, cap, e, hlt, hc, hr⟩
    · exact .inl h3
    · exact .inr ⟨bl, off, cap, e, hlt, hlt, hc, VRow.low L bl off hr⟩
theorem VRow.low : ∀ (L : List VT) (bl off : Nat), VRow w L bl off → VRowB (fun b => b < w.heap.size) w L bl off
  | [], _, _, _ => by rw [VRowB]; trivial
  | t :: L, bl, off, h => by
    rw [VRow] at h
    rw [VRowB]
    obtain ⟨⟨cs, h1, h2⟩, h3⟩ := h
    exact ⟨⟨cs, h1, VCell.low t cs h2⟩, VRow.low L bl (off + 6) h3⟩
end
theorem vcellB_slices {t : VT} {cs : List Value} (h : VCellB B w t cs) : ∃ lo lc ko kc, cs = [.int .i64 t.kind, .bool t.bool, .int .i64 t.int, .string t.str, .slice lo t.list.length lc, .slice ko t.keys.length kc] := by
  cases t
  rw [VCellB] at h
  obtain ⟨lv, kv, rfl, h1, h2⟩ := h
  obtain ⟨ko, kc, rfl⟩ := h1.form
  rcases h2 with ⟨ao, cap, rfl, rfl⟩ | ⟨bl, off, cap, rfl, _⟩
  · exact ⟨_, _, _, _, rfl⟩
  · exact ⟨_, _, _, _, rfl⟩
end
/-- values as things of six cells -/
def EVal : ElemK VT where
  sz := 6
  R B w t cs := VCellB B w t cs
  pos := by decide
  len := by
    intro B w t cs h
    obtain ⟨_, _, _, _, rfl⟩ := vcellB_slices h
    rfl
  one := by
    intro B w t cs h u hu
    obtain ⟨_, _, _, _, rfl⟩ := vcellB_slices h
    simp only [List.mem_cons, List.not_mem_nil, or_false] at hu
    rcases hu with rfl | rfl | rfl | rfl | rfl | rfl <;> rfl
  mono := fun h hB => VCellB.mono hB _ _ h
  lt := fun h => VCellB.lt _ _ h
  keep := fun h hs hb => VCellB.keep hs hb _ _ h
def EVar : ElemK VR := EStr.two EVal
section
variable {B : Nat → Prop} {w : World}
theorem vrowB_cons {t : VT} {L : List VT} {bl off : Nat} : VRowB B w (t :: L) bl off ↔ (∃ cs, (∀ j u, cs[j]? = some u → w.cell? ⟨bl, off + j, none⟩ = some u) ∧ VCellB B w t cs) ∧ VRowB B w L bl (off + 6) := by
  rw [VRowB]
theorem VRowB.at : ∀ {L : List VT} {bl off : Nat}, VRowB B w L bl off → ∀ {k : Nat} (hk : k < L.length), ∃ cs, (∀ j u, cs[j]? = some u → w.cell? ⟨bl, off + k * 6 + j, none⟩ = some u) ∧ VCellB B w L[k] cs
  | [], _, _, _, _, hk => by cases hk
  | t :: L, bl, off, h, 0, _ => by
    rw [vrowB_cons] at h
    obtain ⟨⟨cs, h1, h2⟩, _⟩ := h
    exact ⟨cs, fun j u hu => by rw [Nat.zero_mul, Nat.add_zero]; exact h1 j u hu, h2⟩
  | t :: L, bl, off, h, k + 1, hk => by
    rw [vrowB_cons] at h
    obtain ⟨cs, h1, h2⟩ := VRowB.at h.2 (k := k) (by simpa using hk)
    refine ⟨cs, fun j u hu => ?_, h2⟩
    have := h1 j u hu
    rwa [show off + 6 + k * 6 + j = off + (k + 1) * 6 + j by omega] at this
theorem VRowB.make : ∀ {L : List VT} {bl off : Nat}, (∀ k (hk : k < L.length), ∃ cs, (∀ j u, cs[j]? = some u → w.cell? ⟨bl, off + k * 6 + j, none⟩ = some u) ∧ VCellB B w L[k] cs) → VRowB B w L bl off
  | [], _, _, _ => by rw [VRowB]; trivial
  | t :: L, bl, off, h => by
    rw [vrowB_cons]
    refine ⟨?_, VRowB.make fun k hk => ?_⟩
    · obtain ⟨cs, h1, h2⟩ := h 0 (by simp)
      exact ⟨cs, fun j u hu => by have := h1 j u hu; rwa [Nat.zero_mul, Nat.add_zero] at this, h2⟩
    · obtain ⟨cs, h1, h2⟩ := h (k + 1) (by simpa using hk)
      refine ⟨cs, fun j u hu => ?_, h2⟩
      have := h1 j u hu
      rwa [show off + (k + 1) * 6 + j = off + 6 + k * 6 + j by omega] at this
theorem vcellB_mk {k : Int} {b : Bool} {n : Int} {s : ByteArray} {L : List VT} {ks : List ByteArray} {cs : List Value} :
    VCellB B w (.mk k b n s L ks) cs ↔ ∃ lv kv, cs = [.int .i64 k, .bool b, .int .i64 n, .string s, lv, kv] ∧ EStr.Row B w ks kv ∧ EVal.Row B w L lv := by
  rw [VCellB]
  constructor
  · rintro ⟨lv, kv, h1, h2, h3⟩
    refine ⟨lv, kv, h1, h2, ?_⟩
    rcases h3 with h3 | ⟨bl, off, cap, e, hb, hlt, hc, hr⟩
    · exact .inl h3
    · exact .inr ⟨bl, off, cap, e, hb, hlt, hc, fun k hk => hr.at hk⟩
  · rintro ⟨lv, kv, h1, h2, h3⟩
    refine ⟨lv, kv, h1, h2, ?_⟩
    rcases h3 with h3 | ⟨bl, off, cap, e, hb, hlt, hc, hr⟩
    · exact .inl h3
    · exact .inr ⟨bl, off, cap, e, hb, hlt, hc, VRowB.make hr⟩
theorem vlist_row {L : List VT} {v : Value} (h : EVal.Row B w L v) : VList w L v := by
  rcases h with h | ⟨bl, off, cap, e, hb, hlt, hc, hr⟩
  · exact .inl h
  · exact .inr ⟨bl, off, cap, e, hlt, hc, VRowB.row L bl off (VRowB.make hr)⟩
theorem row_vlist {L : List VT} {v : Value} (h : VList w L v) : EVal.Row (fun b => b < w.heap.size) w L v := by
  rcases h with h | ⟨bl, off, cap, e, hlt, hc, hr⟩
  · exact .inl h
  · exact .inr ⟨bl, off, cap, e, hlt, hlt, hc, fun k hk => (VRow.low L bl off hr).at hk⟩
/-- a value as it is handed over, with the blocks that it reaches -/
def VAtB (B : Nat → Prop) (w : World) (v : Value) (t : VT) : Prop := ∃ cs, v = .agg cs.toArray ∧ VCellB B w t cs
theorem VAtB.at_ {v : Value} {t : VT} (h : VAtB B w v t) : VAt w v t := by
  obtain ⟨cs, h1, h2⟩ := h
  exact ⟨cs, h1, VCellB.cell t cs h2⟩
theorem VAt.low {v : Value} {t : VT} (h : VAt w v t) : VAtB (fun b => b < w.heap.size) w v t := by
  obtain ⟨cs, h1, h2⟩ := h
  exact ⟨cs, h1, VCell.low t cs h2⟩
theorem VAtB.below {w1 : World} {v : Value} {t : VT} (h : VAtB B w v t) (hb : Below w.heap.size w w1) : VAtB B w1 v t := by
  obtain ⟨cs, h1, h2⟩ := h
  exact ⟨cs, h1, VCellB.keep hb.size (fun b _ hl => hb.block b hl) t cs h2⟩
theorem VAtB.mono {B' : Nat → Prop} {v : Value} {t : VT} (h : VAtB B w v t) (hB : ∀ b, B b → B' b) : VAtB B' w v t := by
  obtain ⟨cs, h1, h2⟩ := h
  exact ⟨cs, h1, VCellB.mono hB t cs h2⟩
theorem VAtB.open {v : Value} {t : VT} (h : VAtB B w v t) : ∃ lo lc ko kc, v = .agg #[.int .i64 t.kind, .bool t.bool, .int .i64 t.int, .string t.str, .slice lo t.list.length lc, .slice ko t.keys.length kc] ∧
    EStr.Row B w t.keys (.slice ko t.keys.length kc) ∧ EVal.Row B w t.list (.slice lo t.list.length lc) := by
  obtain ⟨cs, rfl, h⟩ := h
  obtain ⟨lo, lc, ko, kc, rfl⟩ := vcellB_slices h
  cases t
  rw [vcellB_mk] at h
  obtain ⟨lv, kv, e, h1, h2⟩ := h
  simp only [List.cons.injEq, and_true] at e
  obtain ⟨_, _, _, _, e1, e2⟩ := e
  subst e1 e2
  exact ⟨lo, lc, ko, kc, rfl, h1, h2⟩
theorem VAtB.make {t : VT} {lo ko : Option Addr} {lc kc : Nat} (h1 : EStr.Row B w t.keys (.slice ko t.keys.length kc)) (h2 : EVal.Row B w t.list (.slice lo t.list.length lc)) :
    VAtB B w (.agg #[.int .i64 t.kind, .bool t.bool, .int .i64 t.int, .string t.str, .slice lo t.list.length lc, .slice ko t.keys.length kc]) t := by
  cases t
  exact ⟨_, rfl, vcellB_mk.2 ⟨_, _, rfl, h1, h2⟩⟩
/-- the cells of a variable -/
theorem evar_cells {x : VR} {cs : List Value} (h : EVar.R B w x cs) : ∃ c2, cs = .string x.1 :: c2 ∧ VCellB B w x.2 c2 := by
  obtain ⟨c1, c2, rfl, h1, h2⟩ := h
  have h1 : c1 = [.string x.1] := h1
  subst h1
  exact ⟨c2, rfl, h2⟩
theorem evar_mk {x : VR} {c2 : List Value} (h : VCellB B w x.2 c2) : EVar.R B w x (.string x.1 :: c2) := ⟨[.string x.1], c2, rfl, rfl, h⟩
end
end Go.Proofs.YtbndgmbjfgmdnaaGreatDoor
