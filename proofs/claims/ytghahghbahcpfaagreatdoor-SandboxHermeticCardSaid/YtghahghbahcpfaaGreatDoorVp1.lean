/- Plain laws of an execution: what it lists, what it saves, what does not change it. -/
import Derived.Test.YtghahghbahcpfaaGreatDoorVa1
namespace Go.Proofs.YtghahghbahcpfaaGreatDoor

/-! ### put -/
theorem nmO_inj {a b : OutM} (h : nmO a = nmO b) : a.name = b.name := ByteArray.ext (Array.ext' h)
theorem putF_mem {l : List OutM} {o x : OutM} (h : x ∈ putF l o) : x = o ∨ x ∈ l := by
  unfold putF at h
  split at h
  · rcases List.mem_append.1 h with h | h
    · exact .inr h
    · exact .inl (List.mem_singleton.1 h)
  · exact (List.mem_or_eq_of_mem_set h).symm
theorem putF_nodup {l : List OutM} {o : OutM} (h : (l.map nmO).Nodup) : ((putF l o).map nmO).Nodup := by
  unfold putF
  split
  · rename_i hn
    rw [List.findIdx?_eq_none_iff] at hn
    rw [List.map_append, List.nodup_append]
    refine ⟨h, by simp, ?_⟩
    intro a ha b hb e
    subst e
    obtain ⟨y, hy, e⟩ := List.mem_map.1 ha
    have hb : a = nmO o := by simpa using hb
    have := hn y hy
    rw [decide_eq_false_iff_not] at this
    exact this (nmO_inj (e.trans hb))
  · rename_i i hi
    obtain ⟨hl, hp, _⟩ := List.findIdx?_eq_some_iff_getElem.1 hi
    have hp : l[i].name = o.name := of_decide_eq_true hp
    have e : nmO o = (l.map nmO)[i]'(by rw [List.length_map]; exact hl) := by rw [List.getElem_map]; unfold nmO; rw [hp]
    rw [List.map_set, e, List.set_getElem_self]
    exact h
theorem putF_len (l : List OutM) (o : OutM) : (putF l o).length ≤ l.length + 1 := by
  unfold putF
  split
  · simp
  · rw [List.length_set]; omega
/-! ### runs -/
theorem runF_ind (D : ByteArray → Bool) (j : JobM) (v : ViewM) (I : StM → Prop) : ∀ (l : List StepM) (x : StM), (∀ x s, s ∈ l → I x → I (stepF D j v x s).1) → I x → I (runF D j v x l).1
  | [], _, _, h => h
  | s :: l, x, hs, h => by
    rw [runF]
    split
    · exact hs x s (List.mem_cons_self ..) h
    · exact runF_ind D j v I l _ (fun x s hm => hs x s (List.mem_cons_of_mem _ hm)) (hs x s (List.mem_cons_self ..) h)
theorem runF_two (D : ByteArray → Bool) (j : JobM) (v v' : ViewM) (R : StM → StM → Prop) : ∀ (l : List StepM) (x y : StM),
    (∀ s ∈ l, ∀ x y, R x y → (stepF D j v x s).2 = 0 → (stepF D j v' y s).2 = 0 → R (stepF D j v x s).1 (stepF D j v' y s).1) → R x y → (runF D j v x l).2 = 0 → (runF D j v' y l).2 = 0 → R (runF D j v x l).1 (runF D j v' y l).1
  | [], _, _, _, h, _, _ => h
  | s :: l, x, y, hs, h, e1, e2 => by
    rw [runF] at e1 e2 ⊢
    rw [runF]
    by_cases h1 : (stepF D j v x s).2 ≠ 0
    · rw [if_pos h1] at e1; exact absurd e1 h1
    by_cases h2 : (stepF D j v' y s).2 ≠ 0
    · rw [if_pos h2] at e2; exact absurd e2 h2
    rw [if_neg h1] at e1 ⊢
    rw [if_neg h2] at e2 ⊢
    exact runF_two D j v v' R l _ _ (fun s hm => hs s (List.mem_cons_of_mem _ hm)) (hs s (List.mem_cons_self ..) x y h (Decidable.not_not.1 h1) (Decidable.not_not.1 h2)) e1 e2
theorem runF_same (D : ByteArray → Bool) (j : JobM) (v v' : ViewM) (h : ∀ x s, stepF D j v x s = stepF D j v' x s) : ∀ (l : List StepM) (x : StM), runF D j v x l = runF D j v' x l
  | [], _ => rfl
  | s :: l, x => by rw [runF, runF, h, runF_same D j v v' h l]
/-! ### a step that is not refused -/
theorem classF_zero {b : Bool} {z : Int} (hz : z ≠ 0) (h : classF b z = 0) : b = true := by
  unfold classF at h
  cases b with
  | true => rfl
  | false => exact absurd h hz
structure Let (D : ByteArray → Bool) (j : JobM) (v : ViewM) (s : StepM) : Prop where
  file : s.op = 1 → D s.name = true ∧ (fileF v s.name).isSome = true
  art : s.op = 2 → j.uses.contains s.name = true ∧ (artF v s.name).isSome = true
  sec : s.op = 3 ∨ s.op = 7 → j.secrets.contains s.name = true ∧ (secF v s.name).isSome = true
  key : s.op = 4 → 0 ≤ s.n ∧ s.n < (j.ncach : Int) ∧ s.n < (v.keys.length : Int)
  out : s.op = 5 → j.outputs.contains s.name = true
theorem two_zero {a b : Bool} (h : classF a 6 + classF (!(a && b)) 7 = 0) : a = true ∧ b = false := by
  cases a <;> cases b <;> revert h <;> decide
theorem let_of {D : ByteArray → Bool} {j : JobM} {v : ViewM} {s : StepM} (h : refusedF D j v s = 0) : Let D j v s := by
  refine ⟨fun e => ?_, fun e => ?_, fun e => ?_, fun e => ?_, fun e => ?_⟩
  · rw [refusedF, if_pos e] at h
    obtain ⟨h1, h2⟩ := two_zero h
    refine ⟨h1, ?_⟩
    cases hf : fileF v s.name with
    | none => rw [hf] at h2; cases h2
    | some _ => rfl
  · rw [refusedF, if_neg (by omega), if_pos e] at h
    obtain ⟨h1, h2⟩ := two_zero h
    refine ⟨h1, ?_⟩
    cases hf : artF v s.name with
    | none => rw [hf] at h2; cases h2
    | some _ => rfl
  · rw [refusedF, if_neg (by omega), if_neg (by omega), if_pos (by omega)] at h
    have := classF_zero (by decide) h
    rw [Bool.and_eq_true] at this
    exact ⟨this.2, this.1⟩
  · rw [refusedF, if_neg (by omega), if_neg (by omega), if_neg (by omega), if_pos e] at h
    obtain ⟨h1, h2⟩ := two_zero h
    have h1 := of_decide_eq_true h1
    rw [Bool.or_eq_false_iff, decide_eq_false_iff_not] at h2
    exact ⟨h1.1, h1.2, by omega⟩
  · rw [refusedF, if_neg (by omega), if_neg (by omega), if_neg (by omega), if_neg (by omega), if_pos e] at h
    exact classF_zero (by decide) h
theorem find_prop {α : Type} {p : α → Bool} {l : List α} {x : α} (h : l.find? p = some x) : x ∈ l ∧ p x = true := ⟨List.mem_of_find?_eq_some h, List.find?_some h⟩
def entK (k : ByteArray) : EntM := ⟨ByteArray.empty, 0, ByteArray.empty, k, memoF k, sizeF (memoF k), 0, 0⟩
theorem entK_key (k : ByteArray) : (entK k).key = k := rfl
/-! ### what an execution lists -/
structure Lists (D : ByteArray → Bool) (j : JobM) (v : ViewM) (x : StM) : Prop where
  ins : ∀ o ∈ x.reads, (∃ f ∈ v.files, o = ⟨fileN f.path, f.dig, 0⟩ ∧ D f.path = true) ∨ (o ∈ v.arts ∧ j.uses.contains o.name = true)
  insN : (x.reads.map nmO).Nodup
  outs : ∀ o ∈ x.outs, j.outputs.contains o.name = true ∧ o.size = sizeF o.dig
  outsN : (x.outs.map nmO).Nodup
  saves : ∀ e ∈ x.saves, e = entK e.key
theorem Lists.of {D : ByteArray → Bool} {j : JobM} {v : ViewM} {x y : StM} (h : Lists D j v x) (h1 : y.reads = x.reads) (h2 : y.outs = x.outs) (h3 : y.saves = x.saves) : Lists D j v y :=
  ⟨by rw [h1]; exact h.ins, by rw [h1]; exact h.insN, by rw [h2]; exact h.outs, by rw [h2]; exact h.outsN, by rw [h3]; exact h.saves⟩
theorem Lists.setR {D : ByteArray → Bool} {j : JobM} {v : ViewM} {x : StM} (h : Lists D j v x) (a : Nat) (o : OutM) (ho : (∃ f ∈ v.files, o = ⟨fileN f.path, f.dig, 0⟩ ∧ D f.path = true) ∨ (o ∈ v.arts ∧ j.uses.contains o.name = true)) : Lists D j v { x with acc := a, reads := putF x.reads o } :=
  ⟨fun q hq => by
    rcases putF_mem hq with rfl | hq
    · exact ho
    · exact h.ins q hq, putF_nodup h.insN, h.outs, h.outsN, h.saves⟩
theorem Lists.setA {D : ByteArray → Bool} {j : JobM} {v : ViewM} {x : StM} (h : Lists D j v x) (a : Nat) : Lists D j v { x with acc := a } := ⟨h.ins, h.insN, h.outs, h.outsN, h.saves⟩
theorem Lists.setS {D : ByteArray → Bool} {j : JobM} {v : ViewM} {x : StM} (h : Lists D j v x) (a : Nat) (sv : List EntM) (hs : ∀ e ∈ sv, e = entK e.key) : Lists D j v { x with acc := a, saves := sv } := ⟨h.ins, h.insN, h.outs, h.outsN, hs⟩
theorem saves_push {sv : List EntM} (h : ∀ e ∈ sv, e = entK e.key) (k : ByteArray) (b : Bool) : ∀ e ∈ (if b = true then sv else sv ++ [entK k]), e = entK e.key := by
  cases b with
  | true => exact h
  | false =>
    intro e he
    rcases List.mem_append.1 he with he | he
    · exact h e he
    · have he : e = entK k := List.mem_singleton.1 he
      rw [he, entK_key]
theorem takeF_one {v : ViewM} {x : StM} {s : StepM} (h : s.op = 1) : takeF v x s = match fileF v s.name with
    | none => x
    | some f => { x with acc := ofN [114, 101, 97, 100] [x.acc, sumS f.path, f.dig], reads := putF x.reads ⟨fileN f.path, f.dig, 0⟩ } := by
  unfold takeF; rw [if_pos h]; cases fileF v s.name <;> rfl
theorem takeF_two {v : ViewM} {x : StM} {s : StepM} (h : s.op = 2) : takeF v x s = match artF v s.name with
    | none => x
    | some o => { x with acc := ofN [117, 115, 101] [x.acc, sumS o.name, o.dig], reads := putF x.reads o } := by
  unfold takeF; rw [if_neg (by omega), if_pos h]; cases artF v s.name <;> rfl
theorem takeF_three {v : ViewM} {x : StM} {s : StepM} (h : s.op = 3) : takeF v x s = match secF v s.name with
    | none => x
    | some t => { x with acc := ofN [115, 101, 99, 114, 101, 116] [x.acc, sumS t.text] } := by
  unfold takeF; rw [if_neg (by omega), if_neg (by omega), if_pos h]; cases secF v s.name <;> rfl
theorem takeF_four {v : ViewM} {x : StM} {s : StepM} (h : s.op = 4) : takeF v x s = { x with acc := ofN [109, 101, 109, 111] [x.acc, memoF (keyF v s.n)], saves := if knownF v x.saves s.n = true then x.saves else x.saves ++ [entK (keyF v s.n)] } := by
  unfold takeF; rw [if_neg (by omega), if_neg (by omega), if_neg (by omega), if_pos h]; rfl
theorem takeF_rest {v : ViewM} {x : StM} {s : StepM} (h1 : s.op ≠ 1) (h2 : s.op ≠ 2) (h3 : s.op ≠ 3) (h4 : s.op ≠ 4) : takeF v x s = x := by
  unfold takeF; rw [if_neg h1, if_neg h2, if_neg h3, if_neg h4]
theorem Lists.take {D : ByteArray → Bool} {j : JobM} {v : ViewM} {x : StM} {s : StepM} (h : Lists D j v x) (hl : Let D j v s) : Lists D j v (takeF v x s) := by
  by_cases h1 : s.op = 1
  · rw [takeF_one h1]
    cases hf : fileF v s.name with
    | none => exact h
    | some f =>
      obtain ⟨hm, hp⟩ := find_prop hf
      have hp : f.path = s.name := of_decide_eq_true hp
      exact h.setR _ _ (.inl ⟨f, hm, rfl, by rw [hp]; exact (hl.file h1).1⟩)
  by_cases h2 : s.op = 2
  · rw [takeF_two h2]
    cases hf : artF v s.name with
    | none => exact h
    | some f =>
      obtain ⟨hm, hp⟩ := find_prop hf
      have hp : f.name = s.name := of_decide_eq_true hp
      exact h.setR _ _ (.inr ⟨hm, by rw [hp]; exact (hl.art h2).1⟩)
  by_cases h3 : s.op = 3
  · rw [takeF_three h3]
    cases secF v s.name with
    | none => exact h
    | some t => exact h.setA _
  by_cases h4 : s.op = 4
  · rw [takeF_four h4]
    exact h.setS _ _ (saves_push h.saves _ _)
  · rw [takeF_rest h1 h2 h3 h4]
    exact h
def outN (s : StepM) (acc : Nat) : OutM := ⟨s.name, ofN [111, 117, 116] [sumS s.name, acc], sizeF (ofN [111, 117, 116] [sumS s.name, acc])⟩
theorem outN_size (s : StepM) (acc : Nat) : (outN s acc).size = sizeF (outN s acc).dig := rfl
def echoL (v : ViewM) (s : StepM) : List UInt8 := (match secF v s.name with | none => [] | some t => bs t.text) ++ [10]
theorem performF_5 {v : ViewM} {x : StM} {s : StepM} (h : s.op = 5) : performF v x s = ({ takeF v x s with outs := putF x.outs (outN s x.acc) }, 0) := by unfold performF; rw [if_pos h]; rfl
theorem performF_6 {v : ViewM} {x : StM} {s : StepM} (h : s.op = 6) : performF v x s = ({ takeF v x s with log := x.log ++ (bs s.text ++ [10]) }, 0) := by unfold performF; rw [if_neg (by omega), if_pos h]
theorem performF_7 {v : ViewM} {x : StM} {s : StepM} (h : s.op = 7) : performF v x s = ({ takeF v x s with log := x.log ++ echoL v s }, 0) := by unfold performF; rw [if_neg (by omega), if_neg (by omega), if_pos h]; unfold echoL; cases secF v s.name <;> rfl
theorem performF_8 {v : ViewM} {x : StM} {s : StepM} (h : s.op = 8) : performF v x s = ({ takeF v x s with tests := testsF v s }, if badF v s = true then 2 else 0) := by unfold performF; rw [if_neg (by omega), if_neg (by omega), if_neg (by omega), if_pos h]
theorem performF_9 {v : ViewM} {x : StM} {s : StepM} (h : s.op = 9) : performF v x s = (takeF v x s, classF (decide (s.n ≠ 0) && decide (s.n ≤ v.attempt)) 1) := by unfold performF; rw [if_neg (by omega), if_neg (by omega), if_neg (by omega), if_neg (by omega), if_pos h]
theorem performF_11 {v : ViewM} {x : StM} {s : StepM} (h : s.op = 11) : performF v x s = ({ takeF v x s with child := s.text }, 0) := by unfold performF; rw [if_neg (by omega), if_neg (by omega), if_neg (by omega), if_neg (by omega), if_neg (by omega), if_pos h]
theorem performF_r {v : ViewM} {x : StM} {s : StepM} (h5 : s.op ≠ 5) (h6 : s.op ≠ 6) (h7 : s.op ≠ 7) (h8 : s.op ≠ 8) (h9 : s.op ≠ 9) (h11 : s.op ≠ 11) : performF v x s = (takeF v x s, 0) := by unfold performF; rw [if_neg h5, if_neg h6, if_neg h7, if_neg h8, if_neg h9, if_neg h11]
theorem Lists.perform {D : ByteArray → Bool} {j : JobM} {v : ViewM} {x : StM} {s : StepM} (h : Lists D j v x) (hl : Let D j v s) : Lists D j v (performF v x s).1 := by
  have ht := h.take hl
  by_cases h5 : s.op = 5
  · rw [performF_5 h5]
    refine ⟨ht.ins, ht.insN, fun o ho => ?_, putF_nodup h.outsN, ht.saves⟩
    rcases putF_mem ho with rfl | ho
    · exact ⟨hl.out h5, outN_size _ _⟩
    · exact h.outs o ho
  by_cases h6 : s.op = 6
  · rw [performF_6 h6]; exact ht.of rfl rfl rfl
  by_cases h7 : s.op = 7
  · rw [performF_7 h7]; exact ht.of rfl rfl rfl
  by_cases h8 : s.op = 8
  · rw [performF_8 h8]; exact ht.of rfl rfl rfl
  by_cases h9 : s.op = 9
  · rw [performF_9 h9]; exact ht
  by_cases h11 : s.op = 11
  · rw [performF_11 h11]; exact ht.of rfl rfl rfl
  · rw [performF_r h5 h6 h7 h8 h9 h11]; exact ht
theorem Lists.step {D : ByteArray → Bool} {j : JobM} {v : ViewM} {x : StM} {s : StepM} (h : Lists D j v x) : Lists D j v (stepF D j v x s).1 := by
  unfold stepF
  split
  · exact h
  · rename_i hr
    split
    · exact h.of rfl rfl rfl
    · exact (h.of (y := { x with time := addI x.time (takesF v x.saves s) }) rfl rfl rfl).perform (let_of (Decidable.not_not.1 hr))
end Go.Proofs.YtghahghbahcpfaaGreatDoor
/- Plain laws of an execution: what a job does not declare changes nothing. -/
namespace Go.Proofs.YtghahghbahcpfaaGreatDoor

def restrictF (D : ByteArray → Bool) (j : JobM) (v : ViewM) : ViewM where
  files := v.files.filter fun f => D f.path
  arts := v.arts.filter fun o => j.uses.contains o.name
  secs := v.secs.filter fun s => j.secrets.contains s.name
  caches := v.caches.take j.ncach
  keys := v.keys.take j.ncach
  tests := v.tests
  times := v.times
  ignored := v.ignored
  attempt := v.attempt
theorem find_filt {α : Type} (p q : α → Bool) (l : List α) (h : ∀ a, q a = true → p a = true) : (l.filter p).find? q = l.find? q := by
  rw [List.find?_filter]
  congr 1
  funext a
  cases hq : q a with
  | false => simp
  | true => simp [h a hq]
section
variable {D : ByteArray → Bool} {j : JobM} {v : ViewM}
theorem file_restrict {p : ByteArray} (h : D p = true) : fileF (restrictF D j v) p = fileF v p :=
  find_filt _ _ _ fun a ha => by have ha := of_decide_eq_true ha; rw [ha]; exact h
theorem art_restrict {p : ByteArray} (h : j.uses.contains p = true) : artF (restrictF D j v) p = artF v p :=
  find_filt _ _ _ fun a ha => by have ha := of_decide_eq_true ha; rw [ha]; exact h
theorem sec_restrict {p : ByteArray} (h : j.secrets.contains p = true) : secF (restrictF D j v) p = secF v p :=
  find_filt _ _ _ fun a ha => by have ha := of_decide_eq_true ha; rw [ha]; exact h
theorem getD_take {α : Type} (l : List α) (d : α) {k n : Nat} (h : k < n) : (l.take n).getD k d = l.getD k d := by
  rw [List.getD_eq_getElem?_getD, List.getD_eq_getElem?_getD, List.getElem?_take_of_lt h]
theorem key_restrict {n : Int} (h0 : 0 ≤ n) (h : n < (j.ncach : Int)) : keyF (restrictF D j v) n = keyF v n := getD_take _ _ (by omega)
theorem refused_restrict (s : StepM) : refusedF D j (restrictF D j v) s = refusedF D j v s := by
  unfold refusedF
  split
  · cases hd : D s.name with
    | true => rw [file_restrict hd]
    | false => rfl
  split
  · cases hd : j.uses.contains s.name with
    | true => rw [art_restrict hd]
    | false => rfl
  split
  · cases hd : j.secrets.contains s.name with
    | true => rw [sec_restrict hd]
    | false => rw [Bool.and_false, Bool.and_false]
  split
  · by_cases hd : 0 ≤ s.n ∧ s.n < (j.ncach : Int)
    · have hk := key_restrict (D := D) (v := v) hd.1 hd.2
      unfold keyF at hk
      rw [hk]
      have e : decide (((restrictF D j v).keys.length : Int) ≤ s.n) = decide ((v.keys.length : Int) ≤ s.n) := by
        rw [decide_eq_decide]
        show ((v.keys.take j.ncach).length : Int) ≤ s.n ↔ _
        rw [List.length_take]
        omega
      rw [e]
    · rw [decide_eq_false hd]
      rfl
  rfl
theorem known_restrict {n : Int} (h0 : 0 ≤ n) (h1 : n < (j.ncach : Int)) (sv : List EntM) : knownF (restrictF D j v) sv n = knownF v sv n := by
  have hk := key_restrict (D := D) (v := v) h0 h1
  unfold knownF
  rw [hk]
  have e : (restrictF D j v).caches[n.toNat]? = v.caches[n.toNat]? := List.getElem?_take_of_lt (by omega)
  rw [e]
theorem take_restrict {s : StepM} (hl : Let D j v s) (x : StM) : takeF (restrictF D j v) x s = takeF v x s := by
  by_cases h1 : s.op = 1
  · rw [takeF_one h1, takeF_one h1, file_restrict (hl.file h1).1]
  by_cases h2 : s.op = 2
  · rw [takeF_two h2, takeF_two h2, art_restrict (hl.art h2).1]
  by_cases h3 : s.op = 3
  · rw [takeF_three h3, takeF_three h3, sec_restrict (hl.sec (.inl h3)).1]
  by_cases h4 : s.op = 4
  · obtain ⟨h5, h6, _⟩ := hl.key h4
    rw [takeF_four h4, takeF_four h4, key_restrict h5 h6, known_restrict h5 h6]
  · rw [takeF_rest h1 h2 h3 h4, takeF_rest h1 h2 h3 h4]
theorem takes_restrict {s : StepM} (hl : Let D j v s) (sv : List EntM) : takesF (restrictF D j v) sv s = takesF v sv s := by
  unfold takesF
  by_cases h : s.op = 4
  · obtain ⟨h0, h1, h2⟩ := hl.key h
    rw [if_pos h, if_pos h, known_restrict h0 h1]
  · rw [if_neg h, if_neg h]
    rfl
theorem perform_restrict {s : StepM} (hl : Let D j v s) (x : StM) : performF (restrictF D j v) x s = performF v x s := by
  have ht := take_restrict hl x
  by_cases h5 : s.op = 5
  · rw [performF_5 h5, performF_5 h5, ht]
  by_cases h6 : s.op = 6
  · rw [performF_6 h6, performF_6 h6, ht]
  by_cases h7 : s.op = 7
  · have e : echoL (restrictF D j v) s = echoL v s := by unfold echoL; rw [sec_restrict (hl.sec (.inr h7)).1]
    rw [performF_7 h7, performF_7 h7, ht, e]
  by_cases h8 : s.op = 8
  · have e1 : testsF (restrictF D j v) s = testsF v s := rfl
    have e2 : badF (restrictF D j v) s = badF v s := rfl
    rw [performF_8 h8, performF_8 h8, ht, e1, e2]
  by_cases h9 : s.op = 9
  · have e : (restrictF D j v).attempt = v.attempt := rfl
    rw [performF_9 h9, performF_9 h9, ht, e]
  by_cases h11 : s.op = 11
  · rw [performF_11 h11, performF_11 h11, ht]
  · rw [performF_r h5 h6 h7 h8 h9 h11, performF_r h5 h6 h7 h8 h9 h11, ht]
theorem step_restrict (x : StM) (s : StepM) : stepF D j (restrictF D j v) x s = stepF D j v x s := by
  unfold stepF
  rw [refused_restrict]
  split
  · rfl
  · rename_i h
    have hl := let_of (Decidable.not_not.1 h)
    rw [takes_restrict hl]
    split
    · rfl
    · exact perform_restrict hl _
theorem exec_restrict : execF D j (restrictF D j v) = execF D j v := by
  unfold execF
  rw [runF_same D j (restrictF D j v) v step_restrict]
end
/-! ### what is hidden -/
def hiddenF (D : ByteArray → Bool) (j : JobM) (v w : ViewM) : ViewM where
  files := v.files ++ w.files.filter fun f => !D f.path
  arts := v.arts ++ w.arts.filter fun o => !j.uses.contains o.name
  secs := v.secs ++ w.secs.filter fun s => !j.secrets.contains s.name
  caches := w.caches
  keys := v.keys
  tests := v.tests
  times := w.times
  ignored := w.ignored
  attempt := w.attempt
theorem find_hid {α : Type} (p q : α → Bool) (l m : List α) (h : ∀ a, q a = true → p a = true) : (l ++ m.filter fun a => !p a).find? q = l.find? q := by
  rw [List.find?_append]
  have : (m.filter fun a => !p a).find? q = none := by
    rw [List.find?_eq_none]
    intro x hx hq
    have := (List.mem_filter.1 hx).2
    rw [h x hq] at this
    cases this
  rw [this, Option.or_none]
section
variable {D : ByteArray → Bool} {j : JobM} {v w : ViewM}
theorem file_hid {p : ByteArray} (h : D p = true) : fileF (hiddenF D j v w) p = fileF v p :=
  find_hid (fun f : FileM => D f.path) _ _ _ fun a ha => by have ha := of_decide_eq_true ha; rw [ha]; exact h
theorem art_hid {p : ByteArray} (h : j.uses.contains p = true) : artF (hiddenF D j v w) p = artF v p :=
  find_hid (fun o : OutM => j.uses.contains o.name) _ _ _ fun a ha => by have ha := of_decide_eq_true ha; rw [ha]; exact h
theorem sec_hid {p : ByteArray} (h : j.secrets.contains p = true) : secF (hiddenF D j v w) p = secF v p :=
  find_hid (fun s : SecM => j.secrets.contains s.name) _ _ _ fun a ha => by have ha := of_decide_eq_true ha; rw [ha]; exact h
structure SimH (x y : StM) : Prop where
  acc : x.acc = y.acc
  reads : x.reads = y.reads
  outs : x.outs = y.outs
  child : x.child = y.child
theorem SimH.setR {x y : StM} (h : SimH x y) {a b : Nat} {r q : List OutM} (ha : a = b) (hr : r = q) : SimH { x with acc := a, reads := r } { y with acc := b, reads := q } := ⟨ha, hr, h.outs, h.child⟩
theorem SimH.setA {x y : StM} (h : SimH x y) {a b : Nat} (ha : a = b) : SimH { x with acc := a } { y with acc := b } := ⟨ha, h.reads, h.outs, h.child⟩
theorem SimH.setS {x y : StM} (h : SimH x y) {a b : Nat} (ha : a = b) (s t : List EntM) : SimH { x with acc := a, saves := s } { y with acc := b, saves := t } := ⟨ha, h.reads, h.outs, h.child⟩
theorem take_hid {s : StepM} (hl : Let D j v s) {x y : StM} (h : SimH x y) : SimH (takeF v x s) (takeF (hiddenF D j v w) y s) := by
  by_cases h1 : s.op = 1
  · rw [takeF_one h1, takeF_one h1, file_hid (hl.file h1).1]
    cases fileF v s.name with
    | none => exact h
    | some f => exact h.setR (by rw [h.acc]) (by rw [h.reads])
  by_cases h2 : s.op = 2
  · rw [takeF_two h2, takeF_two h2, art_hid (hl.art h2).1]
    cases artF v s.name with
    | none => exact h
    | some f => exact h.setR (by rw [h.acc]) (by rw [h.reads])
  by_cases h3 : s.op = 3
  · rw [takeF_three h3, takeF_three h3, sec_hid (hl.sec (.inl h3)).1]
    cases secF v s.name with
    | none => exact h
    | some f => exact h.setA (by rw [h.acc])
  by_cases h4 : s.op = 4
  · have e : keyF (hiddenF D j v w) s.n = keyF v s.n := rfl
    rw [takeF_four h4, takeF_four h4, e]
    exact h.setS (by rw [h.acc]) _ _
  · rw [takeF_rest h1 h2 h3 h4, takeF_rest h1 h2 h3 h4]
    exact h
theorem perform_hid {s : StepM} (hl : Let D j v s) {x y : StM} (h : SimH x y) : SimH (performF v x s).1 (performF (hiddenF D j v w) y s).1 := by
  have ht := take_hid (w := w) hl h
  by_cases h5 : s.op = 5
  · rw [performF_5 h5, performF_5 h5]
    have e : putF x.outs (outN s x.acc) = putF y.outs (outN s y.acc) := by rw [h.outs, h.acc]
    exact ⟨ht.acc, ht.reads, e, ht.child⟩
  by_cases h6 : s.op = 6
  · rw [performF_6 h6, performF_6 h6]; exact ⟨ht.acc, ht.reads, ht.outs, ht.child⟩
  by_cases h7 : s.op = 7
  · rw [performF_7 h7, performF_7 h7]; exact ⟨ht.acc, ht.reads, ht.outs, ht.child⟩
  by_cases h8 : s.op = 8
  · rw [performF_8 h8, performF_8 h8]; exact ⟨ht.acc, ht.reads, ht.outs, ht.child⟩
  by_cases h9 : s.op = 9
  · rw [performF_9 h9, performF_9 h9]; exact ht
  by_cases h11 : s.op = 11
  · rw [performF_11 h11, performF_11 h11]; exact ⟨ht.acc, ht.reads, ht.outs, rfl⟩
  · rw [performF_r h5 h6 h7 h8 h9 h11, performF_r h5 h6 h7 h8 h9 h11]; exact ht
theorem step_ok {D : ByteArray → Bool} {j : JobM} {v : ViewM} {x : StM} {s : StepM} (h : (stepF D j v x s).2 = 0) : refusedF D j v s = 0 ∧ stepF D j v x s = performF v { x with time := addI x.time (takesF v x.saves s) } s := by
  unfold stepF at h ⊢
  by_cases hr : refusedF D j v s ≠ 0
  · rw [if_pos hr] at h; exact absurd h hr
  rw [if_neg hr] at h ⊢
  by_cases ht : j.timeout < addI x.time (takesF v x.saves s)
  · rw [if_pos ht] at h; cases h
  rw [if_neg ht]
  exact ⟨Decidable.not_not.1 hr, rfl⟩
theorem step_hid (s : StepM) (x y : StM) (h : SimH x y) (h1 : (stepF D j v x s).2 = 0) (h2 : (stepF D j (hiddenF D j v w) y s).2 = 0) : SimH (stepF D j v x s).1 (stepF D j (hiddenF D j v w) y s).1 := by
  obtain ⟨r1, e1⟩ := step_ok h1
  obtain ⟨r2, e2⟩ := step_ok h2
  rw [e1, e2]
  exact perform_hid (let_of r1) ⟨h.acc, h.reads, h.outs, h.child⟩
end
theorem status_one {D : ByteArray → Bool} {j : JobM} {v : ViewM} (h : (execF D j v).status = 1) : (runF D j v (st0 j) j.steps).2 = 0 := by
  unfold execF effectF at h
  dsimp only at h
  split at h
  · assumption
  · cases h
theorem status_not {D : ByteArray → Bool} {j : JobM} {v : ViewM} (h : (execF D j v).status ≠ 1) : (execF D j v).outputs = [] := by
  unfold execF effectF at h ⊢
  dsimp only at h ⊢
  split at h
  · exact absurd rfl h
  · rename_i hc
    rw [if_neg hc]
/-- SandboxHermetic, in plain words -/
theorem hermetic_plain (D : ByteArray → Bool) (j : JobM) (v w : ViewM) (h1 : (execF D j v).status = 1) (h2 : (execF D j (hiddenF D j (restrictF D j v) w)).status = 1) :
    (execF D j v).outputs = (execF D j (hiddenF D j (restrictF D j v) w)).outputs ∧ (execF D j v).inputs = (execF D j (hiddenF D j (restrictF D j v) w)).inputs ∧ (execF D j v).child = (execF D j (hiddenF D j (restrictF D j v) w)).child := by
  rw [← exec_restrict] at h1 ⊢
  have c1 := status_one h1
  have c2 := status_one h2
  have h := runF_two D j (restrictF D j v) (hiddenF D j (restrictF D j v) w) SimH j.steps (st0 j) (st0 j) (fun s _ x y hxy a b => step_hid s x y hxy a b) ⟨rfl, rfl, rfl, rfl⟩ c1 c2
  unfold execF effectF
  generalize runF D j (restrictF D j v) (st0 j) j.steps = r at *
  generalize runF D j (hiddenF D j (restrictF D j v) w) (st0 j) j.steps = q at *
  dsimp only
  rw [c1, c2, if_pos rfl, if_pos rfl, if_pos rfl, if_pos rfl, h.reads, h.outs, h.child]
  exact ⟨rfl, rfl, rfl⟩
end Go.Proofs.YtghahghbahcpfaaGreatDoor
