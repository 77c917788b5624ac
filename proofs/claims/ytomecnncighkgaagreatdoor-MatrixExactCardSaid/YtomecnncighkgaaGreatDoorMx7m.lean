/- The text of an instance, part by part; no program in sight. -/
import Derived.Test.YtomecnncighkgaaGreatDoorVa5
import Derived.Test.YtomecnncighkgaaGreatDoorVq11m
namespace Go.Proofs.YtomecnncighkgaaGreatDoor

theorem joinC_tail (x : List UInt8) : ∀ l : List (List UInt8), joinC (x :: l) = x ++ Lib.joinTail [44] l
  | [] => by simp [joinC, Lib.joinTail]
  | y :: l => by
    rw [joinC, joinC_tail y l]
    simp [Lib.joinTail]
theorem joinC_join : ∀ l : List (List UInt8), Lib.join l [44] = joinC l
  | [] => rfl
  | x :: l => by rw [Lib.join_cons, joinC_tail]
theorem joinC_snoc : ∀ {T : List (List UInt8)} (x : List UInt8), T ≠ [] → joinC (T ++ [x]) = joinC T ++ 44 :: x
  | [], _, h => absurd rfl h
  | [y], x, _ => rfl
  | y :: z :: l, x, _ => by
    rw [List.cons_append, List.cons_append, joinC, ← List.cons_append, joinC_snoc x (by simp), joinC]
    simp
theorem joinC_len {K : Nat} : ∀ {T : List (List UInt8)}, (∀ t ∈ T, t.length ≤ K) → (joinC T).length ≤ T.length * (K + 1)
  | [], _ => by simp [joinC]
  | [y], h => by
    rw [joinC]
    have := h y (List.mem_cons_self ..)
    simp; omega
  | y :: z :: l, h => by
    rw [joinC, List.length_append, List.length_cons]
    have h1 := h y (List.mem_cons_self ..)
    have h2 := joinC_len (T := z :: l) fun t ht => h t (List.mem_cons_of_mem _ ht)
    have : (y :: z :: l).length * (K + 1) = (z :: l).length * (K + 1) + (K + 1) := by rw [List.length_cons, Nat.succ_mul]
    omega
/-- variables whose text can be put together -/
structure SufOk (L : List VR) : Prop where
  n : L.length ≤ 300
  nm : ∀ x ∈ L, x.1.size ≤ 1000000000
  wf : ∀ x ∈ L, x.2.wf
  lit : ∀ x ∈ L, validF x.2 = 0 → (litF x.2).length ≤ 100000000000
theorem show_len {t : VT} (h : validF t = 0 → (litF t).length ≤ 100000000000) : (showT t).length ≤ 100000000000 := by
  unfold showT
  by_cases hv : validF t = 0
  · rw [if_pos hv]; exact h hv
  · rw [if_neg hv]; exact Nat.zero_le _
theorem varT_len {L : List VR} (h : SufOk L) : ∀ x ∈ L, (varT x).length ≤ 102000000000 := fun x hx => by
  unfold varT
  rw [List.length_append, List.length_cons]
  have h1 := show_len (h.lit x hx)
  have h2 := h.nm x hx
  have h3 : x.1.data.toList.length = x.1.size := (Lib.size_eq x.1).symm
  omega
theorem suff_len {L : List VR} (h : SufOk L) (i : Nat) : (joinC ((L.take i).map varT)).length ≤ 30700000000000 := by
  have h1 := joinC_len (K := 102000000000) (T := (L.take i).map varT) (fun t ht => by
    obtain ⟨x, hx, rfl⟩ := List.mem_map.1 ht
    exact varT_len h x (List.mem_of_mem_take hx))
  have h2 : ((L.take i).map varT).length ≤ 300 := by rw [List.length_map, List.length_take]; have := h.n; omega
  have := Nat.mul_le_mul_right (102000000000 + 1) h2
  omega
theorem varT_bx (x : VR) : x.1 ++ (⟨#[61]⟩ : ByteArray) ++ bx (showT x.2) = bx (varT x) := by
  show bx x.1.data.toList ++ bx [61] ++ bx (showT x.2) = _
  rw [bx_app, bx_app, List.append_assoc]
  rfl
theorem bx_size (l : List UInt8) : (bx l).size = l.length := by simp [bx, ByteArray.size]
end Go.Proofs.YtomecnncighkgaaGreatDoor
/- What the chapter's examples come to; no program in sight. -/
namespace Go.Proofs.YtomecnncighkgaaGreatDoor

abbrev sOS : ByteArray := ⟨#[111, 115]⟩
abbrev sGO : ByteArray := ⟨#[103, 111]⟩
abbrev sXX : ByteArray := ⟨#[120]⟩
abbrev sLi : ByteArray := ⟨#[108, 105, 110, 117, 120]⟩
abbrev sMa : ByteArray := ⟨#[109, 97, 99]⟩
def vI (k : Int) : VT := .mk 2 false k ⟨#[]⟩ [] []
def vS (s : ByteArray) : VT := .mk 3 false 0 s [] []
def axOS : AX := (sOS, [vS sLi, vS sMa])
def axGO : AX := (sGO, [vI 1, vI 2])
def mA : MX := ⟨[axOS, axGO], [], []⟩
def exB : List VR := [(sOS, vS sMa)]
def inB : List VR := [(sOS, vS sMa), (sXX, vI 1)]
def mB : MX := ⟨[axOS, axGO], [inB], [exB]⟩
def iAB (a : ByteArray) (b : Int) : List VR := [(sGO, vI b), (sOS, vS a)]
theorem aw_eA : expE mA = 0 := by decide +kernel
theorem aw_lA : expL mA = [iAB sLi 1, iAB sLi 2, iAB sMa 1, iAB sMa 2] := by kernel_rfl
theorem aw_eB : expE mB = 0 := by decide +kernel
theorem aw_lB : (expL mB).length = 3 := by decide +kernel
theorem aw_vB : validM mB = 0 := by decide +kernel
theorem aw_m2 : matF (iAB sMa 1) exB = true := by decide +kernel
theorem aw_m0 : matF (iAB sLi 1) exB = false := by decide +kernel
theorem aw_suf : suffF (iAB sLi 1) = [103, 111, 61, 49, 44, 111, 115, 61, 34, 108, 105, 110, 117, 120, 34] := by kernel_rfl
end Go.Proofs.YtomecnncighkgaaGreatDoor
