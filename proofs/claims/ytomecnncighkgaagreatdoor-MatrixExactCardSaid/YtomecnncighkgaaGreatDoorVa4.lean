/- Matrices: what Valid, Expand, Matches and Suffix answer; no program in sight. -/
import Derived.Test.YtomecnncighkgaaGreatDoorVa2
namespace Go.Proofs.YtomecnncighkgaaGreatDoor

/-- an axis: its name, its values -/
abbrev AX := ByteArray × List VT
abbrev nmA (x : AX) : Bs := x.1.data.toList
structure MX where
  axes : List AX
  incl : List (List VR)
  excl : List (List VR)
/-- the error of a value that must be a scalar -/
def scalF (t : VT) : Nat := if t.kind = 4 ∨ t.kind = 5 then 9 else validF t
/-- the error of some variables, others having come before -/
def propTo (acc : List VR) : List VR → Nat
  | [] => 0
  | x :: l => if keyOk x.1 = false then 1 else if scalF x.2 ≠ 0 then scalF x.2 else if nmR x ∈ acc.map nmR then 7 else propTo (acc ++ [x]) l
def propF (l : List VR) : Nat := propTo [] l
def valsTo (acc : List VT) : List VT → Nat
  | [] => 0
  | x :: l => if scalF x ≠ 0 then scalF x else if acc.any (fun y => decide (cmpV x y = 0)) = true then 7 else valsTo (acc ++ [x]) l
def valsF (l : List VT) : Nat := if 1024 < l.length then 3 else valsTo [] l
def axTo (acc : List AX) : List AX → Nat
  | [] => 0
  | x :: l => if keyOk x.1 = false then 1 else if nmA x ∈ acc.map nmA then 7 else if valsF x.2 ≠ 0 then valsF x.2 else axTo (acc ++ [x]) l
def patsTo : List (List VR) → Nat
  | [] => 0
  | v :: l => if propF v ≠ 0 then propF v else patsTo l
def patsF (l : List (List VR)) : Nat := if 1024 < l.length then 3 else patsTo l
def validM (m : MX) : Nat := if 8 < m.axes.length then 15 else if axTo [] m.axes ≠ 0 then axTo [] m.axes else if patsF m.incl ≠ 0 then patsF m.incl else patsF m.excl
/-- how many combinations there are -/
def prodL (l : List AX) : Nat := l.foldl (fun n a => n * a.2.length) 1
def manyF (l : List AX) : Bool := decide (256 < prodL l)
/-- the first variable of a name has such a value -/
def hasF (vars : List VR) (x : VR) : Bool := match vars.find? (fun v => nmR v == nmR x) with
  | none => false
  | some v => decide (cmpV v.2 x.2 = 0)
def matF (vars pat : List VR) : Bool := pat.all (hasF vars)
def agrF (a b : List VR) : Bool := matF a b && matF b a
def combF : List AX → List (List VR)
  | [] => [[]]
  | a :: l => a.2.flatMap fun v => (combF l).map fun c => (a.1, v) :: c
def combsF (l : List AX) : List (List VR) := if l = [] then [] else combF l
def exclF (m : MX) (vars : List VR) : Bool := m.excl.any (matF vars)
def instF (l : List VR) : List VR := sortN nmR l
def fstOut (m : MX) : List (List VR) := ((combsF m.axes).filter fun v => !exclF m v).map instF
def addInc (out : List (List VR)) (v : List VR) : List (List VR) := if out.any (fun l => agrF l v) = true then out else out ++ [instF v]
def outF (m : MX) : List (List VR) := m.incl.foldl addInc (fstOut m)
def expE (m : MX) : Nat := if validM m ≠ 0 then validM m else if manyF m.axes = true then 15 else if 256 < (outF m).length then 15 else 0
def expL (m : MX) : List (List VR) := if expE m = 0 then outF m else []
/-- an instance's text, part by part -/
def varT (x : VR) : List UInt8 := x.1.data.toList ++ 61 :: showT x.2
def joinC : List (List UInt8) → List UInt8
  | [] => []
  | [x] => x
  | x :: y :: l => x ++ 44 :: joinC (y :: l)
def suffF (l : List VR) : List UInt8 := joinC (l.map varT)

/-! ### agreeing -/
/-- every variable of b has one of its name and value in a -/
def Mat (a b : List VR) : Prop := ∀ p ∈ b, ∃ y ∈ a, nmR y = nmR p ∧ cmpV y.2 p.2 = 0
def Agr (a b : List VR) : Prop := Mat a b ∧ Mat b a
theorem cmpV_sym {x y : VT} (h : cmpV x y = 0) : cmpV y x = 0 := by have := cmpV_po.anti x y; omega
theorem cmpV_tr {x y z : VT} (h : cmpV x y = 0) (k : cmpV y z = 0) : cmpV x z = 0 := by rw [cmpV_po.eq_eq h z]; exact k
theorem Mat.refl (a : List VR) : Mat a a := fun p hp => ⟨p, hp, rfl, cmpV_po.refl _⟩
theorem Mat.trans {a b c : List VR} (h : Mat a b) (k : Mat b c) : Mat a c := fun p hp => by
  obtain ⟨y, hy, e1, e2⟩ := k p hp
  obtain ⟨z, hz, e3, e4⟩ := h y hy
  exact ⟨z, hz, e3.trans e1, cmpV_tr e4 e2⟩
theorem Agr.refl (a : List VR) : Agr a a := ⟨Mat.refl a, Mat.refl a⟩
theorem Agr.symm {a b : List VR} (h : Agr a b) : Agr b a := ⟨h.2, h.1⟩
theorem Agr.trans {a b c : List VR} (h : Agr a b) (k : Agr b c) : Agr a c := ⟨h.1.trans k.1, k.2.trans h.2⟩
theorem mat_perm {a a' b b' : List VR} (ha : a.Perm a') (hb : b.Perm b') (h : Mat a b) : Mat a' b' := fun p hp => by
  obtain ⟨y, hy, e⟩ := h p (hb.mem_iff.2 hp)
  exact ⟨y, ha.mem_iff.1 hy, e⟩
theorem agr_perm {a b : List VR} (h : a.Perm b) : Agr a b := ⟨mat_perm (List.Perm.refl a) h (Mat.refl a), mat_perm (List.Perm.refl b) h.symm (Mat.refl b)⟩
theorem find_nodup : ∀ {l : List VR} {v : VR}, (l.map nmR).Nodup → v ∈ l → l.find? (fun y => nmR y == nmR v) = some v
  | x :: l, v, hn, hv => by
    rw [List.map_cons, List.nodup_cons] at hn
    rw [List.find?_cons]
    rcases List.mem_cons.1 hv with rfl | hv
    · rw [beq_self_eq_true]
    · have hne : ¬ nmR x = nmR v := fun e => hn.1 (by rw [e]; exact List.mem_map.2 ⟨v, hv, rfl⟩)
      rw [beq_eq_false_iff_ne.2 hne]
      exact find_nodup hn.2 hv
theorem has_iff {vars : List VR} (hn : (vars.map nmR).Nodup) (x : VR) : hasF vars x = true ↔ ∃ y ∈ vars, nmR y = nmR x ∧ cmpV y.2 x.2 = 0 := by
  unfold hasF
  constructor
  · intro h
    cases hf : vars.find? (fun v => nmR v == nmR x) with
    | none => rw [hf] at h; cases h
    | some v =>
      rw [hf] at h
      exact ⟨v, List.mem_of_find?_eq_some hf, by simpa using List.find?_some hf, of_decide_eq_true h⟩
  · rintro ⟨y, hy, e1, e2⟩
    rw [← e1, find_nodup hn hy]
    exact decide_eq_true e2
theorem mat_iff {vars pat : List VR} (hn : (vars.map nmR).Nodup) : matF vars pat = true ↔ Mat vars pat := by
  unfold matF
  rw [List.all_eq_true]
  exact ⟨fun h p hp => (has_iff hn p).1 (h p hp), fun h p hp => (has_iff hn p).2 (h p hp)⟩
theorem agr_iff {a b : List VR} (ha : (a.map nmR).Nodup) (hb : (b.map nmR).Nodup) : agrF a b = true ↔ Agr a b := by
  unfold agrF Agr
  rw [Bool.and_eq_true, mat_iff ha, mat_iff hb]

/-! ### what validity says -/
theorem propTo_iff : ∀ (acc l : List VR), propTo acc l = 0 ↔ (∀ x ∈ l, keyOk x.1 = true ∧ scalF x.2 = 0) ∧ (∀ x ∈ l, nmR x ∉ acc.map nmR) ∧ (l.map nmR).Nodup
  | acc, [] => by simp [propTo]
  | acc, x :: l => by
    rw [propTo, List.map_cons, List.nodup_cons]
    by_cases h1 : keyOk x.1 = false
    · rw [if_pos h1]
      exact ⟨fun h => absurd h (by decide), fun h => by have := (h.1 x (List.mem_cons_self ..)).1; rw [h1] at this; cases this⟩
    · have hk : keyOk x.1 = true := by simpa using h1
      rw [if_neg h1]
      by_cases h2 : scalF x.2 = 0
      · rw [if_neg (fun k => k h2)]
        by_cases h4 : nmR x ∈ acc.map nmR
        · rw [if_pos h4]
          exact ⟨fun h => absurd h (by decide), fun h => absurd h4 (h.2.1 x (List.mem_cons_self ..))⟩
        · rw [if_neg h4, propTo_iff (acc ++ [x]) l, List.map_append]
          constructor
          · rintro ⟨a1, a2, a3⟩
            refine ⟨fun y hy => ?_, fun y hy => ?_, fun hm => ?_, a3⟩
            · rcases List.mem_cons.1 hy with rfl | hy
              · exact ⟨hk, h2⟩
              · exact a1 y hy
            · rcases List.mem_cons.1 hy with rfl | hy
              · exact h4
              · exact fun k => a2 y hy (List.mem_append.2 (.inl k))
            · obtain ⟨y, hy, e⟩ := List.mem_map.1 hm
              exact a2 y hy (List.mem_append.2 (.inr (by rw [e]; exact List.mem_singleton.2 rfl)))
          · rintro ⟨a1, a2, a3, a4⟩
            refine ⟨fun y hy => a1 y (List.mem_cons_of_mem _ hy), fun y hy hm => ?_, a4⟩
            rcases List.mem_append.1 hm with hm | hm
            · exact a2 y (List.mem_cons_of_mem _ hy) hm
            · exact a3 (by rw [← List.mem_singleton.1 hm]; exact List.mem_map.2 ⟨y, hy, rfl⟩)
      · rw [if_pos h2]
        exact ⟨fun h => absurd h h2, fun h => absurd (h.1 x (List.mem_cons_self ..)).2 h2⟩
theorem prop_iff (l : List VR) : propF l = 0 ↔ (∀ x ∈ l, keyOk x.1 = true ∧ scalF x.2 = 0) ∧ (l.map nmR).Nodup := by
  unfold propF
  rw [propTo_iff]
  exact ⟨fun h => ⟨h.1, h.2.2⟩, fun h => ⟨h.1, fun x _ => by simp, h.2⟩⟩
theorem valsTo_iff : ∀ (acc l : List VT), valsTo acc l = 0 ↔ (∀ x ∈ l, scalF x = 0) ∧ (∀ x ∈ l, ∀ y ∈ acc, cmpV x y ≠ 0) ∧ l.Pairwise (fun x y => cmpV y x ≠ 0)
  | acc, [] => by simp [valsTo]
  | acc, x :: l => by
    rw [valsTo, List.pairwise_cons]
    by_cases h2 : scalF x = 0
    · rw [if_neg (fun k => k h2)]
      by_cases h4 : acc.any (fun y => decide (cmpV x y = 0)) = true
      · rw [if_pos h4]
        obtain ⟨y, hy, e⟩ := List.any_eq_true.1 h4
        exact ⟨fun h => absurd h (by decide), fun h => absurd (of_decide_eq_true e) (h.2.1 x (List.mem_cons_self ..) y hy)⟩
      · rw [if_neg h4, valsTo_iff (acc ++ [x]) l]
        have h5 : ∀ y ∈ acc, cmpV x y ≠ 0 := fun y hy e => h4 (List.any_eq_true.2 ⟨y, hy, decide_eq_true e⟩)
        constructor
        · rintro ⟨a1, a2, a3⟩
          refine ⟨fun y hy => ?_, fun y hy z hz => ?_, fun y hy => a2 y hy x (List.mem_append.2 (.inr (List.mem_singleton.2 rfl))), a3⟩
          · rcases List.mem_cons.1 hy with rfl | hy
            · exact h2
            · exact a1 y hy
          · rcases List.mem_cons.1 hy with rfl | hy
            · exact h5 z hz
            · exact a2 y hy z (List.mem_append.2 (.inl hz))
        · rintro ⟨a1, a2, a3, a4⟩
          refine ⟨fun y hy => a1 y (List.mem_cons_of_mem _ hy), fun y hy z hz => ?_, a4⟩
          rcases List.mem_append.1 hz with hz | hz
          · exact a2 y (List.mem_cons_of_mem _ hy) z hz
          · rw [List.mem_singleton.1 hz]; exact a3 y hy
    · rw [if_pos h2]
      exact ⟨fun h => absurd h h2, fun h => absurd (h.1 x (List.mem_cons_self ..)) h2⟩
theorem vals_iff (l : List VT) : valsF l = 0 ↔ l.length ≤ 1024 ∧ (∀ x ∈ l, scalF x = 0) ∧ l.Pairwise (fun x y => cmpV y x ≠ 0) := by
  unfold valsF
  by_cases h : 1024 < l.length
  · rw [if_pos h]; exact ⟨fun k => absurd k (by decide), fun k => absurd k.1 (by omega)⟩
  · rw [if_neg h, valsTo_iff]
    exact ⟨fun k => ⟨by omega, k.1, k.2.2⟩, fun k => ⟨k.2.1, fun x _ y hy => (by cases hy), k.2.2⟩⟩
theorem axTo_iff : ∀ (acc l : List AX), axTo acc l = 0 ↔ (∀ x ∈ l, keyOk x.1 = true ∧ valsF x.2 = 0) ∧ (∀ x ∈ l, nmA x ∉ acc.map nmA) ∧ (l.map nmA).Nodup
  | acc, [] => by simp [axTo]
  | acc, x :: l => by
    rw [axTo, List.map_cons, List.nodup_cons]
    by_cases h1 : keyOk x.1 = false
    · rw [if_pos h1]
      exact ⟨fun h => absurd h (by decide), fun h => by have := (h.1 x (List.mem_cons_self ..)).1; rw [h1] at this; cases this⟩
    · have hk : keyOk x.1 = true := by simpa using h1
      rw [if_neg h1]
      by_cases h4 : nmA x ∈ acc.map nmA
      · rw [if_pos h4]
        exact ⟨fun h => absurd h (by decide), fun h => absurd h4 (h.2.1 x (List.mem_cons_self ..))⟩
      · rw [if_neg h4]
        by_cases h2 : valsF x.2 = 0
        · rw [if_neg (fun k => k h2), axTo_iff (acc ++ [x]) l, List.map_append]
          constructor
          · rintro ⟨a1, a2, a3⟩
            refine ⟨fun y hy => ?_, fun y hy => ?_, fun hm => ?_, a3⟩
            · rcases List.mem_cons.1 hy with rfl | hy
              · exact ⟨hk, h2⟩
              · exact a1 y hy
            · rcases List.mem_cons.1 hy with rfl | hy
              · exact h4
              · exact fun k => a2 y hy (List.mem_append.2 (.inl k))
            · obtain ⟨y, hy, e⟩ := List.mem_map.1 hm
              exact a2 y hy (List.mem_append.2 (.inr (by rw [e]; exact List.mem_singleton.2 rfl)))
          · rintro ⟨a1, a2, a3, a4⟩
            refine ⟨fun y hy => a1 y (List.mem_cons_of_mem _ hy), fun y hy hm => ?_, a4⟩
            rcases List.mem_append.1 hm with hm | hm
            · exact a2 y (List.mem_cons_of_mem _ hy) hm
            · exact a3 (by rw [← List.mem_singleton.1 hm]; exact List.mem_map.2 ⟨y, hy, rfl⟩)
        · rw [if_pos h2]
          exact ⟨fun h => absurd h h2, fun h => absurd (h.1 x (List.mem_cons_self ..)).2 h2⟩
theorem patsTo_iff : ∀ l : List (List VR), patsTo l = 0 ↔ ∀ v ∈ l, propF v = 0
  | [] => by simp [patsTo]
  | v :: l => by
    rw [patsTo]
    by_cases h : propF v = 0
    · rw [if_neg (fun k => k h), patsTo_iff l]
      exact ⟨fun k x hx => by
        rcases List.mem_cons.1 hx with rfl | hx
        · exact h
        · exact k x hx, fun k x hx => k x (List.mem_cons_of_mem _ hx)⟩
    · rw [if_pos h]
      exact ⟨fun k => absurd k h, fun k => absurd (k v (List.mem_cons_self ..)) h⟩
theorem pats_iff (l : List (List VR)) : patsF l = 0 ↔ l.length ≤ 1024 ∧ ∀ v ∈ l, propF v = 0 := by
  unfold patsF
  by_cases h : 1024 < l.length
  · rw [if_pos h]; exact ⟨fun k => absurd k (by decide), fun k => absurd k.1 (by omega)⟩
  · rw [if_neg h, patsTo_iff]
    exact ⟨fun k => ⟨by omega, k⟩, fun k => k.2⟩
/-- a valid matrix -/
theorem validM_iff (m : MX) : validM m = 0 ↔ m.axes.length ≤ 8 ∧ ((∀ x ∈ m.axes, keyOk x.1 = true ∧ valsF x.2 = 0) ∧ (m.axes.map nmA).Nodup) ∧ patsF m.incl = 0 ∧ patsF m.excl = 0 := by
  unfold validM
  by_cases h : 8 < m.axes.length
  · rw [if_pos h]; exact ⟨fun k => absurd k (by decide), fun k => absurd k.1 (by omega)⟩
  · rw [if_neg h]
    have ha := axTo_iff [] m.axes
    by_cases h1 : axTo [] m.axes = 0
    · rw [if_neg (fun k => k h1)]
      have h1' := ha.1 h1
      by_cases h2 : patsF m.incl = 0
      · rw [if_neg (fun k => k h2)]
        exact ⟨fun k => ⟨by omega, ⟨h1'.1, h1'.2.2⟩, h2, k⟩, fun k => k.2.2.2⟩
      · rw [if_pos h2]
        exact ⟨fun k => absurd k h2, fun k => absurd k.2.2.1 h2⟩
    · rw [if_pos h1]
      exact ⟨fun k => absurd k h1, fun k => absurd (ha.2 ⟨k.2.1.1, fun x _ => by simp, k.2.1.2⟩) h1⟩
end Go.Proofs.YtomecnncighkgaaGreatDoor
/- The combinations of axes, and the instances of a matrix: each once; no program in sight. -/
namespace Go.Proofs.YtomecnncighkgaaGreatDoor

/-- a combination of axes -/
def IsC : List AX → List VR → Prop
  | [], [] => True
  | a :: l, x :: c => (x.1 = a.1 ∧ x.2 ∈ a.2) ∧ IsC l c
  | _, _ => False
theorem comb_iff : ∀ (l : List AX) (c : List VR), c ∈ combF l ↔ IsC l c
  | [], [] => by simp [combF, IsC]
  | [], _ :: _ => by simp [combF, IsC]
  | a :: l, [] => by simp [combF, IsC]
  | a :: l, x :: c => by
    rw [combF, List.mem_flatMap, IsC]
    constructor
    · rintro ⟨v, hv, hm⟩
      obtain ⟨d, hd, e⟩ := List.mem_map.1 hm
      injection e with e1 e2
      subst e1 e2
      exact ⟨⟨rfl, hv⟩, (comb_iff l d).1 hd⟩
    · rintro ⟨⟨h1, h2⟩, h3⟩
      exact ⟨x.2, h2, List.mem_map.2 ⟨c, (comb_iff l c).2 h3, by rw [← h1]⟩⟩
theorem isC_names : ∀ {l : List AX} {c : List VR}, IsC l c → c.map nmR = l.map nmA
  | [], [], _ => rfl
  | [], _ :: _, h => by simp [IsC] at h
  | _ :: _, [], h => by simp [IsC] at h
  | a :: l, x :: c, h => by
    rw [IsC] at h
    rw [List.map_cons, List.map_cons, isC_names h.2]
    show nmR x :: _ = nmA a :: _
    unfold nmR nmA
    rw [h.1.1]
theorem isC_len {l : List AX} {c : List VR} (h : IsC l c) : c.length = l.length := by
  have := congrArg List.length (isC_names h)
  simpa using this
theorem isC_at : ∀ {l : List AX} {c : List VR}, IsC l c → ∀ a ∈ l, ∃ x ∈ c, x.1 = a.1 ∧ x.2 ∈ a.2
  | [], _, _, _, ha => by cases ha
  | _ :: _, [], h, _, _ => by simp [IsC] at h
  | b :: l, x :: c, h, a, ha => by
    rw [IsC] at h
    rcases List.mem_cons.1 ha with rfl | ha
    · exact ⟨x, List.mem_cons_self .., h.1⟩
    · obtain ⟨y, hy, e⟩ := isC_at h.2 a ha
      exact ⟨y, List.mem_cons_of_mem _ hy, e⟩
theorem agr_tail {nm : ByteArray} {v v' : VT} {c d : List VR} (hc : nm.data.toList ∉ c.map nmR) (hd : nm.data.toList ∉ d.map nmR) (h : Agr ((nm, v) :: c) ((nm, v') :: d)) : cmpV v v' = 0 ∧ Agr c d := by
  obtain ⟨h1, h2⟩ := h
  have key : ∀ {v v' : VT} {c d : List VR}, nm.data.toList ∉ d.map nmR → Mat ((nm, v) :: c) ((nm, v') :: d) → Mat c d := fun {v v' c d} hd h p hp => by
    obtain ⟨y, hy, e1, e2⟩ := h p (List.mem_cons_of_mem _ hp)
    rcases List.mem_cons.1 hy with rfl | hy
    · exact absurd (List.mem_map.2 ⟨p, hp, e1.symm⟩) hd
    · exact ⟨y, hy, e1, e2⟩
  refine ⟨?_, key hd h1, key hc h2⟩
  obtain ⟨y, hy, e1, e2⟩ := h1 (nm, v') (List.mem_cons_self ..)
  rcases List.mem_cons.1 hy with rfl | hy
  · exact e2
  · exact absurd (List.mem_map.2 ⟨y, hy, e1⟩) hc
theorem comb_pw : ∀ {l : List AX}, (l.map nmA).Nodup → (∀ a ∈ l, a.2.Pairwise (fun x y => cmpV y x ≠ 0)) → (combF l).Pairwise (fun a b => ¬ Agr a b)
  | [], _, _ => by rw [combF]; exact List.pairwise_singleton _ _
  | a :: l, hn, hp => by
    rw [List.map_cons, List.nodup_cons] at hn
    have hnm : ∀ c ∈ combF l, a.1.data.toList ∉ c.map nmR := fun c hc hm => hn.1 (by rw [← isC_names ((comb_iff l c).1 hc)]; exact hm)
    rw [combF, List.pairwise_flatMap]
    refine ⟨fun v hv => ?_, (hp a (List.mem_cons_self ..)).imp fun {v v'} hvv c hc d hd hag => ?_⟩
    · rw [List.pairwise_map]
      have ih := comb_pw hn.2 fun b hb => hp b (List.mem_cons_of_mem _ hb)
      refine List.Pairwise.imp_of_mem (fun {c d} hc hd h hag => h (agr_tail (hnm c hc) (hnm d hd) hag).2) ih
    · obtain ⟨c', hc', rfl⟩ := List.mem_map.1 hc
      obtain ⟨d', hd', rfl⟩ := List.mem_map.1 hd
      exact hvv (cmpV_sym (agr_tail (hnm c' hc') (hnm d' hd') hag).1)
theorem comb_len : ∀ (l : List AX) (k : Nat), l.foldl (fun n a => n * a.2.length) k = k * (combF l).length
  | [], k => by simp [combF]
  | a :: l, k => by
    rw [List.foldl_cons, comb_len l (k * a.2.length), combF, List.length_flatMap]
    have : (a.2.map fun v => ((combF l).map fun c => (a.1, v) :: c).length).sum = a.2.length * (combF l).length := by
      induction a.2 with
      | nil => simp
      | cons v L ih => rw [List.map_cons, List.sum_cons, ih, List.length_map, List.length_cons, Nat.succ_mul]; omega
    rw [this, Nat.mul_assoc]
theorem prod_len (l : List AX) : prodL l = (combF l).length := by unfold prodL; rw [comb_len, Nat.one_mul]
theorem combs_mem {l : List AX} {c : List VR} (h : c ∈ combsF l) : IsC l c ∧ l ≠ [] := by
  unfold combsF at h
  by_cases he : l = []
  · rw [if_pos he] at h; cases h
  · rw [if_neg he] at h; exact ⟨(comb_iff l c).1 h, he⟩

/-! ### the instances -/
/-- what the instances under way are like -/
structure OutOk (m : MX) (inc : List (List VR)) (out : List (List VR)) : Prop where
  asc : ∀ x ∈ out, AscN nmR x
  pw : out.Pairwise (fun a b => ¬ Agr a b)
  from_ : ∀ x ∈ out, (∃ c ∈ combsF m.axes, exclF m c = false ∧ x = instF c) ∨ ∃ v ∈ inc, x = instF v
  comb : ∀ c ∈ combsF m.axes, exclF m c = false → instF c ∈ out
  incl : ∀ v ∈ inc, ∃ x ∈ out, Agr x v
theorem AscN.nodup {l : List VR} (h : AscN nmR l) : (l.map nmR).Nodup := asc_nodup h
theorem inst_agr {v : List VR} : Agr (instF v) v := agr_perm (sortN_perm (nm := nmR) v)
theorem inst_asc {v : List VR} (h : (v.map nmR).Nodup) : AscN nmR (instF v) := sortN_asc h
theorem combs_nodup {m : MX} (hn : (m.axes.map nmA).Nodup) {c : List VR} (h : c ∈ combsF m.axes) : (c.map nmR).Nodup := by rw [isC_names (combs_mem h).1]; exact hn
theorem combs_pw {m : MX} (hn : (m.axes.map nmA).Nodup) (hp : ∀ a ∈ m.axes, a.2.Pairwise (fun x y => cmpV y x ≠ 0)) : (combsF m.axes).Pairwise (fun a b => ¬ Agr a b) := by
  unfold combsF
  by_cases h : m.axes = []
  · rw [if_pos h]; exact List.Pairwise.nil
  · rw [if_neg h]; exact comb_pw hn hp
theorem fstOut_ok {m : MX} (hn : (m.axes.map nmA).Nodup) (hp : ∀ a ∈ m.axes, a.2.Pairwise (fun x y => cmpV y x ≠ 0)) : OutOk m [] (fstOut m) where
  asc := fun x hx => by
    obtain ⟨c, hc, rfl⟩ := List.mem_map.1 hx
    exact inst_asc (combs_nodup hn (List.mem_filter.1 hc).1)
  pw := by
    unfold fstOut
    rw [List.pairwise_map]
    exact ((combs_pw hn hp).filter _).imp fun {a b} h hag => h ((inst_agr.symm.trans hag).trans inst_agr)
  from_ := fun x hx => by
    obtain ⟨c, hc, rfl⟩ := List.mem_map.1 hx
    obtain ⟨h1, h2⟩ := List.mem_filter.1 hc
    exact .inl ⟨c, h1, by simpa using h2, rfl⟩
  comb := fun c hc he => List.mem_map.2 ⟨c, List.mem_filter.2 ⟨hc, by rw [he]; rfl⟩, rfl⟩
  incl := fun v hv => by cases hv
theorem addInc_ok {m : MX} {inc out : List (List VR)} {v : List VR} (h : OutOk m inc out) (hv : (v.map nmR).Nodup) : OutOk m (inc ++ [v]) (addInc out v) := by
  have hag : ∀ l ∈ out, (agrF l v = true ↔ Agr l v) := fun l hl => agr_iff (h.asc l hl).nodup hv
  unfold addInc
  by_cases hk : out.any (fun l => agrF l v) = true
  · rw [if_pos hk]
    obtain ⟨l, hl, e⟩ := List.any_eq_true.1 hk
    refine ⟨h.asc, h.pw, fun x hx => ?_, h.comb, fun u hu => ?_⟩
    · rcases h.from_ x hx with h1 | ⟨u, hu, e⟩
      · exact .inl h1
      · exact .inr ⟨u, List.mem_append.2 (.inl hu), e⟩
    · rcases List.mem_append.1 hu with hu | hu
      · exact h.incl u hu
      · rw [List.mem_singleton.1 hu]; exact ⟨l, hl, (hag l hl).1 e⟩
  · rw [if_neg hk]
    have hno : ∀ l ∈ out, ¬ Agr l v := fun l hl ha => hk (List.any_eq_true.2 ⟨l, hl, (hag l hl).2 ha⟩)
    refine ⟨fun x hx => ?_, ?_, fun x hx => ?_, fun c hc he => List.mem_append.2 (.inl (h.comb c hc he)), fun u hu => ?_⟩
    · rcases List.mem_append.1 hx with hx | hx
      · exact h.asc x hx
      · rw [List.mem_singleton.1 hx]; exact inst_asc hv
    · rw [List.pairwise_append]
      refine ⟨h.pw, List.pairwise_singleton _ _, fun a ha b hb hab => hno a ha ?_⟩
      rw [List.mem_singleton.1 hb] at hab
      exact hab.trans inst_agr
    · rcases List.mem_append.1 hx with hx | hx
      · rcases h.from_ x hx with h1 | ⟨u, hu, e⟩
        · exact .inl h1
        · exact .inr ⟨u, List.mem_append.2 (.inl hu), e⟩
      · exact .inr ⟨v, List.mem_append.2 (.inr (List.mem_singleton.2 rfl)), List.mem_singleton.1 hx⟩
    · rcases List.mem_append.1 hu with hu | hu
      · obtain ⟨x, hx, e⟩ := h.incl u hu
        exact ⟨x, List.mem_append.2 (.inl hx), e⟩
      · rw [List.mem_singleton.1 hu]
        exact ⟨instF v, List.mem_append.2 (.inr (List.mem_singleton.2 rfl)), inst_agr⟩
theorem fold_ok {m : MX} : ∀ (l inc out : List (List VR)), OutOk m inc out → (∀ v ∈ l, (v.map nmR).Nodup) → OutOk m (inc ++ l) (l.foldl addInc out)
  | [], inc, out, h, _ => by rw [List.append_nil]; exact h
  | v :: l, inc, out, h, hv => by
    have := fold_ok l (inc ++ [v]) (addInc out v) (addInc_ok h (hv v (List.mem_cons_self ..))) fun u hu => hv u (List.mem_cons_of_mem _ hu)
    rw [List.append_assoc] at this
    exact this
theorem out_ok {m : MX} (hv : validM m = 0) : OutOk m m.incl (outF m) := by
  obtain ⟨_, ⟨ha, hn⟩, hi, _⟩ := (validM_iff m).1 hv
  have := fold_ok m.incl [] (fstOut m) (fstOut_ok hn fun a h => ((vals_iff a.2).1 (ha a h).2).2.2) fun v h => ((prop_iff v).1 (((pats_iff m.incl).1 hi).2 v h)).2
  rw [List.nil_append] at this
  exact this

/-! ### how often -/
def withF (v : List VR) (l : List (List VR)) : Nat := l.countP (agrF v)
theorem with_le {v : List VR} (hv : (v.map nmR).Nodup) : ∀ {l : List (List VR)}, (∀ x ∈ l, (x.map nmR).Nodup) → l.Pairwise (fun a b => ¬ Agr a b) → withF v l ≤ 1
  | [], _, _ => by simp [withF]
  | x :: l, hn, hp => by
    rw [List.pairwise_cons] at hp
    unfold withF
    rw [List.countP_cons]
    have ih := with_le hv (fun y hy => hn y (List.mem_cons_of_mem _ hy)) hp.2
    by_cases hx : agrF v x = true
    · have h0 : l.countP (agrF v) = 0 := by
        rw [List.countP_eq_zero]
        intro y hy e
        have h1 := (agr_iff hv (hn x (List.mem_cons_self ..))).1 hx
        have h2 := (agr_iff hv (hn y (List.mem_cons_of_mem _ hy))).1 e
        exact hp.1 y hy (h1.symm.trans h2)
      rw [h0, if_pos hx]
      exact Nat.le_refl _
    · rw [if_neg hx]; exact ih
theorem with_one {v : List VR} (hv : (v.map nmR).Nodup) {l : List (List VR)} (hn : ∀ x ∈ l, (x.map nmR).Nodup) (hp : l.Pairwise (fun a b => ¬ Agr a b)) {x : List VR} (hx : x ∈ l) (ha : Agr v x) : withF v l = 1 := by
  have h1 := with_le hv hn hp
  have h2 : 0 < withF v l := List.countP_pos_iff.2 ⟨x, hx, (agr_iff hv (hn x hx)).2 ha⟩
  omega
theorem excl_perm {m : MX} {a b : List VR} (ha : (a.map nmR).Nodup) (h : a.Perm b) : exclF m a = exclF m b := by
  have hb : (b.map nmR).Nodup := (h.map nmR).nodup_iff.1 ha
  unfold exclF
  congr 1
  funext p
  rw [Bool.eq_iff_iff, mat_iff ha, mat_iff hb]
  exact ⟨mat_perm h (List.Perm.refl p), mat_perm h.symm (List.Perm.refl p)⟩
/-- has a value of every axis, and nothing else -/
def combinF (m : MX) (v : List VR) : Bool := decide (v.length = m.axes.length) && decide (v.length ≠ 0) && m.axes.all fun a => a.2.any fun x => matF v [(a.1, x)]
theorem exact_own {m : MX} (hv : validM m = 0) {x : List VR} (hx : x ∈ outF m) : withF x (outF m) = 1 :=
  have h := out_ok hv
  with_one (h.asc x hx).nodup (fun y hy => (h.asc y hy).nodup) h.pw hx (Agr.refl x)
theorem exact_incl {m : MX} (hv : validM m = 0) {v : List VR} (hm : v ∈ m.incl) : withF v (outF m) = 1 := by
  have h := out_ok hv
  obtain ⟨_, _, hi, _⟩ := (validM_iff m).1 hv
  have hn := ((prop_iff v).1 (((pats_iff m.incl).1 hi).2 v hm)).2
  obtain ⟨x, hx, e⟩ := h.incl v hm
  exact with_one hn (fun y hy => (h.asc y hy).nodup) h.pw hx e.symm
theorem exact_comb {m : MX} (hv : validM m = 0) {x : List VR} (hx : x ∈ outF m) (h0 : withF x m.incl = 0) : exclF m x = false ∧ combinF m x = true := by
  have h := out_ok hv
  obtain ⟨_, ⟨ha, hn⟩, hi, _⟩ := (validM_iff m).1 hv
  rcases h.from_ x hx with ⟨c, hc, he, rfl⟩ | ⟨v, hv2, rfl⟩
  · have hcn := combs_nodup hn hc
    have hp := sortN_perm (nm := nmR) c
    have hin : ((instF c).map nmR).Nodup := (h.asc _ hx).nodup
    refine ⟨by rw [excl_perm hin hp]; exact he, ?_⟩
    obtain ⟨hic, hne⟩ := combs_mem hc
    have hlen : (instF c).length = m.axes.length := by
      have h1 := isC_len hic
      have h2 := hp.length_eq
      unfold instF
      omega
    have hpos : m.axes.length ≠ 0 := fun e => hne (List.length_eq_zero_iff.1 e)
    unfold combinF
    rw [Bool.and_eq_true, Bool.and_eq_true]
    refine ⟨⟨decide_eq_true hlen, decide_eq_true (by omega)⟩, List.all_eq_true.2 fun a ha2 => ?_⟩
    obtain ⟨y, hy, e1, e2⟩ := isC_at hic a ha2
    refine List.any_eq_true.2 ⟨y.2, e2, (mat_iff hin).2 fun p hp2 => ?_⟩
    rw [List.mem_singleton.1 hp2]
    exact ⟨y, hp.mem_iff.2 hy, by show y.1.data.toList = a.1.data.toList; rw [e1], cmpV_po.refl _⟩
  · have hvn := ((prop_iff v).1 (((pats_iff m.incl).1 hi).2 v hv2)).2
    unfold withF at h0
    rw [List.countP_eq_zero] at h0
    exact absurd ((agr_iff (h.asc _ hx).nodup hvn).2 inst_agr) (h0 v hv2)
theorem exact_choice {m : MX} (hv : validM m = 0) {c : List VR} (hc : IsC m.axes c) (hne : m.axes ≠ []) (he : exclF m c = false) : withF c (outF m) = 1 := by
  have h := out_ok hv
  obtain ⟨_, ⟨ha, hn⟩, _, _⟩ := (validM_iff m).1 hv
  have hm : c ∈ combsF m.axes := by unfold combsF; rw [if_neg hne]; exact (comb_iff _ _).2 hc
  exact with_one (combs_nodup hn hm) (fun y hy => (h.asc y hy).nodup) h.pw (h.comb c hm he) inst_agr.symm
end Go.Proofs.YtomecnncighkgaaGreatDoor
/- The order of the excluded patterns; how many instances there are; no program in sight. -/
namespace Go.Proofs.YtomecnncighkgaaGreatDoor

/-! ### the order of the excluded patterns -/
def turnM (m : MX) : MX := ⟨m.axes, m.incl, m.excl.reverse⟩
theorem turn_excl (m : MX) (v : List VR) : exclF (turnM m) v = exclF m v := by
  unfold exclF turnM
  exact List.any_reverse
theorem turn_out (m : MX) : outF (turnM m) = outF m := by
  unfold outF fstOut
  have : (fun v => !exclF (turnM m) v) = fun v => !exclF m v := by funext v; rw [turn_excl]
  rw [this]
  rfl
theorem turn_valid {m : MX} (h : validM m = 0) : validM (turnM m) = 0 := by
  rw [validM_iff] at h ⊢
  refine ⟨h.1, h.2.1, h.2.2.1, ?_⟩
  have h2 := (pats_iff _).1 h.2.2.2
  exact (pats_iff _).2 ⟨by show m.excl.reverse.length ≤ 1024; rw [List.length_reverse]; exact h2.1, fun v hv => h2.2 v (List.mem_reverse.1 hv)⟩
theorem turn_exp {m : MX} (h : validM m = 0) : expE (turnM m) = expE m ∧ expL (turnM m) = expL m := by
  have e : expE (turnM m) = expE m := by
    unfold expE
    rw [turn_valid h, h, turn_out]
    rfl
  refine ⟨e, ?_⟩
  unfold expL
  rw [e, turn_out]

/-! ### how many -/
def intV (k : Nat) : VT := .mk 2 false (k : Int) ⟨#[]⟩ [] []
theorem intV_valid {k : Nat} (h : k ≤ 9007199254740992) : validF (intV k) = 0 := by
  unfold validF
  rw [checkF_eqn]
  have hl : (intV k).list = [] := rfl
  rw [hl, checkL]
  have hp : plainF (intV k) = true := by unfold plainF; simp [intV, VT.kind, VT.bool, VT.int, VT.str, VT.list, VT.keys]
  have hz : (⟨#[]⟩ : ByteArray).size = 0 := rfl
  unfold nodeF
  rw [hp]
  simp only [intV, VT.kind, VT.int, VT.str, VT.list, VT.keys]
  simp [hz]
  omega
theorem intV_scal {k : Nat} (h : k ≤ 9007199254740992) : scalF (intV k) = 0 := by
  unfold scalF
  rw [if_neg (by simp [intV, VT.kind]), intV_valid h]
theorem intV_cmp {j k : Nat} (h : cmpV (intV j) (intV k) = 0) : j = k := by
  rw [cmpV_int (a := intV j) (b := intV k) rfl rfl] at h
  have := cmpI_eq h
  simp only [intV, VT.int] at this
  omega
def axN (i : Nat) : ByteArray := ⟨#[UInt8.ofNat (97 + i)]⟩
def axC (n i : Nat) : AX := (axN i, (List.range n).map intV)
/-- axes of some sizes, the first one numbered s -/
def axsC (s : Nat) : List Nat → List AX
  | [] => []
  | n :: l => axC n s :: axsC (s + 1) l
theorem axsC_len : ∀ (l : List Nat) (s : Nat), (axsC s l).length = l.length
  | [], _ => rfl
  | n :: l, s => by rw [axsC, List.length_cons, List.length_cons, axsC_len l]
theorem axN_inj {i j : Nat} (hi : i ≤ 100) (hj : j ≤ 100) (h : (axN i).data.toList = (axN j).data.toList) : i = j := by
  simp only [axN, List.cons.injEq, and_true] at h
  have := congrArg UInt8.toNat h
  simp at this
  omega
theorem axsC_names : ∀ (l : List Nat) (s i : Nat) (hi : i < (axsC s l).length), (axsC s l)[i].1 = axN (s + i)
  | n :: l, s, 0, _ => rfl
  | n :: l, s, i + 1, hi => by
    have := axsC_names l (s + 1) i (by simpa [axsC] using hi)
    rw [show s + 1 + i = s + (i + 1) by omega] at this
    exact this
theorem axsC_mem : ∀ {l : List Nat} {s : Nat} {a : AX}, a ∈ axsC s l → ∃ n i, n ∈ l ∧ s ≤ i ∧ i < s + l.length ∧ a = axC n i
  | n :: l, s, a, h => by
    rcases List.mem_cons.1 h with rfl | h
    · exact ⟨n, s, List.mem_cons_self .., Nat.le_refl _, by rw [List.length_cons]; omega, rfl⟩
    · obtain ⟨k, i, h1, h2, h3, rfl⟩ := axsC_mem h
      exact ⟨k, i, List.mem_cons_of_mem _ h1, by omega, by rw [List.length_cons]; omega, rfl⟩
theorem axsC_nodup : ∀ (l : List Nat) (s : Nat), s + l.length ≤ 100 → ((axsC s l).map nmA).Nodup
  | [], _, _ => by simp [axsC]
  | n :: l, s, h => by
    rw [List.length_cons] at h
    rw [axsC, List.map_cons, List.nodup_cons]
    refine ⟨fun hm => ?_, axsC_nodup l (s + 1) (by omega)⟩
    obtain ⟨a, ha, e⟩ := List.mem_map.1 hm
    obtain ⟨k, i, _, h2, h3, rfl⟩ := axsC_mem ha
    have := axN_inj (i := i) (j := s) (by omega) (by omega) e
    omega
theorem vals_range (n : Nat) (h : n ≤ 255) : valsF ((List.range n).map intV) = 0 := by
  refine (vals_iff _).2 ⟨by rw [List.length_map, List.length_range]; omega, fun x hx => ?_, ?_⟩
  · obtain ⟨k, hk, rfl⟩ := List.mem_map.1 hx
    have := List.mem_range.1 hk
    exact intV_scal (by omega)
  · rw [List.pairwise_map]
    exact List.pairwise_lt_range.imp fun {a b} hab e => by have := intV_cmp e; omega
def cntM (l : List Nat) : MX := ⟨axsC 0 l, [], []⟩
theorem cnt_valid {l : List Nat} (hl : l.length ≤ 8) (hs : ∀ n ∈ l, n ≤ 255) : validM (cntM l) = 0 := by
  refine (validM_iff _).2 ⟨by show (axsC 0 l).length ≤ 8; rw [axsC_len]; exact hl, ⟨fun a ha => ?_, axsC_nodup l 0 (by omega)⟩, by show patsF [] = 0; decide, by show patsF [] = 0; decide⟩
  obtain ⟨n, i, h1, _, _, rfl⟩ := axsC_mem ha
  exact ⟨rfl, vals_range n (hs n h1)⟩
def prodN (l : List Nat) : Nat := l.foldl (fun p n => p * n) 1
theorem cnt_prod : ∀ (l : List Nat) (s k : Nat), (axsC s l).foldl (fun n a => n * a.2.length) k = l.foldl (fun p n => p * n) k
  | [], _, _ => rfl
  | n :: l, s, k => by
    rw [axsC, List.foldl_cons, List.foldl_cons, cnt_prod l]
    congr 1
    show k * ((List.range n).map intV).length = k * n
    rw [List.length_map, List.length_range]
theorem cnt_out (l : List Nat) : (outF (cntM l)).length = if l = [] then 0 else prodN l := by
  have h0 : outF (cntM l) = fstOut (cntM l) := rfl
  rw [h0]
  unfold fstOut
  have hf : (combsF (cntM l).axes).filter (fun v => !exclF (cntM l) v) = combsF (cntM l).axes := List.filter_eq_self.2 (fun v _ => rfl)
  rw [List.length_map, hf]
  show (combsF (axsC 0 l)).length = _
  unfold combsF
  by_cases h : l = []
  · subst h; rfl
  · rw [if_neg h, if_neg (fun e => h (List.length_eq_zero_iff.1 (by rw [← axsC_len l 0, e]; rfl))), ← prod_len]
    unfold prodL prodN
    rw [cnt_prod]
/-- the product as the law reckons it -/
def satP (l : List Nat) : Nat := l.foldl (fun p n => min (p * n) 1000000) 1
def noneP (l : List Nat) : Bool := decide (l.length = 0) || l.any (fun n => decide (n = 0))
def cntP (l : List Nat) : Nat := if noneP l = true then 0 else satP l
theorem sat_min : ∀ (l : List Nat) (p : Nat), (∀ n ∈ l, n ≠ 0) → l.foldl (fun p n => min (p * n) 1000000) (min p 1000000) = min (l.foldl (fun p n => p * n) p) 1000000
  | [], _, _ => rfl
  | n :: l, p, h => by
    rw [List.foldl_cons, List.foldl_cons, ← sat_min l (p * n) fun k hk => h k (List.mem_cons_of_mem _ hk)]
    congr 1
    have hn := h n (List.mem_cons_self ..)
    by_cases hp : p ≤ 1000000
    · rw [Nat.min_eq_left hp]
    · rw [show min p 1000000 = 1000000 from Nat.min_eq_right (by omega)]
      have h1 : 1000000 ≤ 1000000 * n := Nat.le_mul_of_pos_right _ (by omega)
      have h2 : 1000000 ≤ p * n := Nat.le_trans (by omega) (Nat.le_mul_of_pos_right p (show 0 < n by omega))
      omega
theorem prod_zero : ∀ (l : List Nat) (p : Nat), (p = 0 ∨ 0 ∈ l) → l.foldl (fun p n => p * n) p = 0
  | [], p, h => by simpa using h
  | n :: l, p, h => by
    rw [List.foldl_cons]
    refine prod_zero l _ ?_
    rcases h with rfl | h
    · exact .inl (Nat.zero_mul _)
    · rcases List.mem_cons.1 h with rfl | h
      · exact .inl (Nat.mul_zero _)
      · exact .inr h
theorem cnt_law {l : List Nat} (hl : l.length ≤ 8) (hs : ∀ n ∈ l, n ≤ 255) : (256 < cntP l → expE (cntM l) = 15 ∧ expL (cntM l) = []) ∧ (cntP l ≤ 256 → expE (cntM l) = 0 ∧ (expL (cntM l)).length = cntP l) := by
  have hv := cnt_valid hl hs
  have ho := cnt_out l
  have hm : manyF (cntM l).axes = decide (256 < prodN l) := by
    have e : prodL (cntM l).axes = prodN l := cnt_prod l 0 1
    unfold manyF
    rw [e]
  have hE : expE (cntM l) = if 256 < prodN l then 15 else if 256 < (outF (cntM l)).length then 15 else 0 := by
    unfold expE
    rw [if_neg (fun k => k hv), hm]
    simp
  by_cases hn : noneP l = true
  · have hP : cntP l = 0 := by unfold cntP; rw [if_pos hn]
    have h0 : l = [] ∨ 0 ∈ l := by
      unfold noneP at hn
      rw [Bool.or_eq_true] at hn
      rcases hn with h | h
      · exact .inl (List.length_eq_zero_iff.1 (of_decide_eq_true h))
      · obtain ⟨n, hn, e⟩ := List.any_eq_true.1 h
        rw [of_decide_eq_true e] at hn
        exact .inr hn
    have hout : (outF (cntM l)).length = 0 ∧ prodN l ≤ 256 := by
      rcases h0 with rfl | h0
      · exact ⟨by rw [ho]; rfl, by decide⟩
      · have hz : prodN l = 0 := prod_zero l 1 (.inr h0)
        refine ⟨?_, by omega⟩
        rw [ho]
        split
        · rfl
        · exact hz
    rw [hP]
    refine ⟨fun h => by omega, fun _ => ?_⟩
    have hE0 : expE (cntM l) = 0 := by rw [hE, if_neg (by omega), if_neg (by omega)]
    exact ⟨hE0, by unfold expL; rw [if_pos hE0]; exact hout.1⟩
  · have hP : cntP l = satP l := by unfold cntP; rw [if_neg hn]
    have hne : l ≠ [] := fun e => hn (by subst e; rfl)
    have hnz : ∀ n ∈ l, n ≠ 0 := fun n hm e => hn (by
      unfold noneP
      rw [Bool.or_eq_true]
      exact .inr (List.any_eq_true.2 ⟨n, hm, decide_eq_true e⟩))
    have hS : satP l = min (prodN l) 1000000 := sat_min l 1 hnz
    have hout : (outF (cntM l)).length = prodN l := by rw [ho, if_neg hne]
    rw [hP, hS]
    refine ⟨fun h => ?_, fun h => ?_⟩
    · have h2 : 256 < prodN l := by omega
      have hE1 : expE (cntM l) = 15 := by rw [hE, if_pos h2]
      exact ⟨hE1, by unfold expL; rw [if_neg (by omega)]⟩
    · have h2 : ¬ 256 < prodN l := by omega
      have hE0 : expE (cntM l) = 0 := by rw [hE, if_neg h2, hout, if_neg h2]
      refine ⟨hE0, ?_⟩
      unfold expL
      rw [if_pos hE0, hout]
      omega
end Go.Proofs.YtomecnncighkgaaGreatDoor
/- The combinations one after the other, as digits that count up; no program in sight. -/
namespace Go.Proofs.YtomecnncighkgaaGreatDoor

def zerosL (l : List AX) : List Nat := l.map fun _ => 0
def pickC : List AX → List Nat → List VR
  | a :: l, d :: ds => (a.1, a.2.getD d VT.zero) :: pickC l ds
  | _, _ => []
/-- the next digits, the last one counting fastest -/
def stepC : List AX → List Nat → Option (List Nat)
  | a :: l, d :: ds => match stepC l ds with
    | some e => some (d :: e)
    | none => if d + 1 < a.2.length then some ((d + 1) :: zerosL l) else none
  | _, _ => none
/-- the combinations from some digits on -/
def fromC : List AX → List Nat → List (List VR)
  | [], _ => [[]]
  | a :: l, d :: ds => ((fromC l ds).map fun c => (a.1, a.2.getD d VT.zero) :: c) ++ (a.2.drop (d + 1)).flatMap fun v => (combF l).map fun c => (a.1, v) :: c
  | _ :: _, [] => []
/-- digits in range -/
def InC : List AX → List Nat → Prop
  | [], [] => True
  | a :: l, d :: ds => d < a.2.length ∧ InC l ds
  | _, _ => False
theorem inC_len : ∀ {l : List AX} {ds : List Nat}, InC l ds → ds.length = l.length
  | [], [], _ => rfl
  | [], _ :: _, h => by simp [InC] at h
  | _ :: _, [], h => by simp [InC] at h
  | a :: l, d :: ds, h => by rw [InC] at h; rw [List.length_cons, List.length_cons, inC_len h.2]
theorem inC_at : ∀ {l : List AX} {ds : List Nat}, InC l ds → ∀ (i : Nat) (h1 : i < l.length) (h2 : i < ds.length), ds[i] < l[i].2.length
  | [], _, _, i, h1, _ => by simp at h1
  | _ :: _, [], h, _, _, _ => by simp [InC] at h
  | a :: l, d :: ds, h, 0, _, _ => by rw [InC] at h; exact h.1
  | a :: l, d :: ds, h, i + 1, h1, h2 => by rw [InC] at h; exact inC_at h.2 i (by simpa using h1) (by simpa using h2)
theorem inC_full : ∀ {l : List AX} {ds : List Nat}, InC l ds → ∀ a ∈ l, a.2 ≠ []
  | [], _, _, _, ha => by cases ha
  | _ :: _, [], h, _, _ => by simp [InC] at h
  | b :: l, d :: ds, h, a, ha => by
    rw [InC] at h
    rcases List.mem_cons.1 ha with rfl | ha
    · intro e; rw [e] at h; simp at h
    · exact inC_full h.2 a ha
theorem inC_zeros : ∀ {l : List AX}, (∀ a ∈ l, a.2 ≠ []) → InC l (zerosL l)
  | [], _ => trivial
  | a :: _, h => ⟨List.length_pos_iff.2 (h a (List.mem_cons_self ..)), inC_zeros fun b hb => h b (List.mem_cons_of_mem _ hb)⟩
theorem from_zeros : ∀ {l : List AX}, (∀ a ∈ l, a.2 ≠ []) → fromC l (zerosL l) = combF l
  | [], _ => rfl
  | (nm, vs) :: l, h => by
    cases vs with
    | nil => exact absurd rfl (h (nm, []) (List.mem_cons_self ..))
    | cons v vs =>
      show ((fromC l (zerosL l)).map fun c => (nm, v) :: c) ++ vs.flatMap _ = _
      rw [from_zeros fun b hb => h b (List.mem_cons_of_mem _ hb), combF, List.flatMap_cons]
theorem from_step : ∀ {l : List AX} {ds : List Nat}, InC l ds → fromC l ds = pickC l ds :: (match stepC l ds with | some e => fromC l e | none => [])
  | [], [], _ => rfl
  | [], _ :: _, h => by simp [InC] at h
  | _ :: _, [], h => by simp [InC] at h
  | a :: l, d :: ds, h => by
    rw [InC] at h
    have ih := from_step h.2
    rw [fromC, ih, pickC, stepC]
    cases hs : stepC l ds with
    | some e => simp [fromC]
    | none =>
      simp only [List.map_cons, List.map_nil]
      by_cases hd : d + 1 < a.2.length
      · rw [if_pos hd]
        show _ = _ :: fromC (a :: l) ((d + 1) :: zerosL l)
        rw [fromC, from_zeros (inC_full h.2), List.drop_eq_getElem_cons hd, List.flatMap_cons]
        have he : a.2.getD (d + 1) VT.zero = a.2[d + 1] := by rw [List.getD, List.getElem?_eq_getElem hd]; rfl
        rw [he]
        rfl
      · rw [if_neg hd, List.drop_eq_nil_of_le (by omega)]
        rfl
theorem step_in : ∀ {l : List AX} {ds e : List Nat}, InC l ds → stepC l ds = some e → InC l e
  | [], _, _, _, h => by simp [stepC] at h
  | _ :: _, [], _, h, _ => by simp [InC] at h
  | a :: l, d :: ds, e, h, hs => by
    rw [InC] at h
    rw [stepC] at hs
    cases hl : stepC l ds with
    | some e' =>
      rw [hl] at hs
      injection hs with hs
      subst hs
      exact ⟨h.1, step_in h.2 hl⟩
    | none =>
      rw [hl] at hs
      simp only at hs
      by_cases hd : d + 1 < a.2.length
      · rw [if_pos hd] at hs
        injection hs with hs
        subst hs
        exact ⟨hd, inC_zeros (inC_full h.2)⟩
      · rw [if_neg hd] at hs; cases hs
/-- a step behind some digits is a step of all -/
theorem step_cut : ∀ (i : Nat) {l : List AX} {ds e : List Nat}, i ≤ l.length → i ≤ ds.length → stepC (l.drop i) (ds.drop i) = some e → stepC l ds = some (ds.take i ++ e)
  | 0, _, _, _, _, _, h => by simpa using h
  | i + 1, [], _, _, hl, _, _ => by simp at hl
  | i + 1, _ :: _, [], _, _, hd, _ => by simp at hd
  | i + 1, a :: l, d :: ds, e, hl, hd, h => by
    have ih := step_cut i (l := l) (ds := ds) (e := e) (by simpa using hl) (by simpa using hd) (by simpa using h)
    rw [stepC, ih]
    rfl
/-- at the digit i, those behind it being at their ends -/
theorem step_at {l : List AX} {ds : List Nat} (i : Nat) (h1 : i < l.length) (h2 : i < ds.length) (hn : stepC (l.drop (i + 1)) (ds.drop (i + 1)) = none) :
    (ds[i] + 1 < l[i].2.length → stepC l ds = some (ds.take i ++ (ds[i] + 1) :: zerosL (l.drop (i + 1)))) ∧ (¬ ds[i] + 1 < l[i].2.length → stepC (l.drop i) (ds.drop i) = none) := by
  have e : stepC (l.drop i) (ds.drop i) = if ds[i] + 1 < l[i].2.length then some ((ds[i] + 1) :: zerosL (l.drop (i + 1))) else none := by
    rw [List.drop_eq_getElem_cons h1, List.drop_eq_getElem_cons h2, stepC, hn]
  refine ⟨fun h => ?_, fun h => ?_⟩
  · rw [if_pos h] at e
    exact step_cut i (by omega) (by omega) e
  · rw [e, if_neg h]
theorem step_end (l : List AX) (ds : List Nat) (hl : ds.length = l.length) : stepC (l.drop l.length) (ds.drop l.length) = none := by
  rw [List.drop_length, ← hl, List.drop_length]
  rfl
theorem pick_len : ∀ {l : List AX} {ds : List Nat}, InC l ds → (pickC l ds).length = l.length
  | [], [], _ => rfl
  | [], _ :: _, h => by simp [InC] at h
  | _ :: _, [], h => by simp [InC] at h
  | a :: l, d :: ds, h => by rw [InC] at h; rw [pickC, List.length_cons, List.length_cons, pick_len h.2]
theorem pick_at : ∀ {l : List AX} {ds : List Nat}, InC l ds → ∀ (i : Nat) (h1 : i < l.length) (h2 : i < ds.length) (h3 : i < (pickC l ds).length), (pickC l ds)[i] = (l[i].1, l[i].2.getD ds[i] VT.zero)
  | [], _, _, i, h1, _, _ => by simp at h1
  | _ :: _, [], h, _, _, _, _ => by simp [InC] at h
  | a :: l, d :: ds, h, 0, _, _, _ => rfl
  | a :: l, d :: ds, h, i + 1, h1, h2, h3 => by
    rw [InC] at h
    exact pick_at h.2 i (by simpa using h1) (by simpa using h2) (by simpa [pickC] using h3)
theorem pick_isC : ∀ {l : List AX} {ds : List Nat}, InC l ds → IsC l (pickC l ds)
  | [], [], _ => trivial
  | [], _ :: _, h => by simp [InC] at h
  | _ :: _, [], h => by simp [InC] at h
  | a :: l, d :: ds, h => by
    rw [InC] at h
    refine ⟨⟨rfl, ?_⟩, pick_isC h.2⟩
    rw [List.getD, List.getElem?_eq_getElem h.1]
    exact List.getElem_mem _
end Go.Proofs.YtomecnncighkgaaGreatDoor
