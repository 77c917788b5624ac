/- The walk over report.Parse: the results of any text, or the line and the error. -/
import Derived.Test.YtngbjnjkcniabaaGreatDoorRp6
import Derived.Test.YtngbjnjkcniabaaGreatDoorGmap
namespace Go.Proofs.YtngbjnjkcniabaaGreatDoor
open Go.RowKit Go.Shelf

attribute [local go_sem] Oper.semAt_some

/-- entering a range over a closure: the record and the block for the rounds' deferred calls are laid -/
theorem range_enter {P : Program} {n : Nat} {g : Operand} {ps : Array Tmp} {assign body : Code} {Q : Exit → Act → World → Prop} {a : Act} {w : World} (gf : Nat) (lb : Array Value)
    (hg : a.eval g = .func (.func gf) #[] lb) (eg : ∀ args w, (callFunc gf args).run P w = .ok (.enter gf args) w)
    (h : ∀ (fn : FuncId) (W1 : World), Below w.heap.size w W1 → W1.heap.size = w.heap.size + 2 → W1.heap[w.heap.size]? = some (.deferred (some [])) →
      W1.heap[w.heap.size + 1]? = some (.loop { state := .ready, pending := none, fn, tmps := a.tmps, params := ps, assign, body, defers := w.heap.size }) →
      CallsIn Fence.wide (n - 1) P gf (#[.func (.yield (w.heap.size + 1)) #[] #[]] ++ lb) W1 (rangePost Fence.wide n P (w.heap.size + 1) Q { a with defers := [{ target := .collected w.heap.size, args := #[] }] ++ a.defers })) :
    (Code.rangeFunc g ps assign body).wpIn Fence.wide n P Q a w := by
  refine wpIn_rangeFunc ?_
  intro fn hfn
  obtain ⟨rec, hrec⟩ : ∃ rec : Loop, rec = { state := .ready, pending := none, fn, tmps := a.tmps, params := ps, assign, body, defers := w.heap.size } := ⟨_, rfl⟩
  obtain ⟨W1, hW1⟩ : ∃ W1, (w.alloc (.deferred (some []))).alloc (.loop rec) = W1 := ⟨_, rfl⟩
  have hL1 : W1.heap[w.heap.size + 1]? = some (.loop rec) := by
    rw [← hW1]; have := World.alloc_heap_new (w.alloc (.deferred (some []))) (.loop rec); rwa [World.size_alloc] at this
  have hK1 : W1.heap[w.heap.size]? = some (.deferred (some [])) := by
    rw [← hW1]; exact (Below.heap_alloc _ _ _ (by simp)).trans (World.alloc_heap_new w _)
  have hB1 : Below w.heap.size w W1 := by
    rw [← hW1]; exact ((Below.refl _ w).alloc (Nat.le_refl _) _).alloc (by simp) _
  have hS1 : W1.heap.size = w.heap.size + 2 := by rw [← hW1]; simp
  refine ⟨w.heap.size + 1, [{ target := .collected w.heap.size, args := #[] }], W1, { target := .fn (.func gf) lb, args := #[.func (.yield (w.heap.size + 1)) #[] #[]] }, W1, gf,
    #[.func (.yield (w.heap.size + 1)) #[] #[]] ++ lb, W1, ?_, ?_, ?_, ?_, fun h => (by cases h), ?_⟩
  · rw [← hW1, hrec]; exact run_enterLoop_outer _ _ _ _ _
  · simp only [resolve, hg]
    simp [go_sem]
  · intro f' _; trivial
  · simp [invoke, go_sem, eg]
  · exact h fn W1 hB1 hS1 hK1 (by rw [hL1, hrec])

set_option maxRecDepth 100000 in
theorem linesf_any (s : ByteArray) (w : World) : Calls Tryz.prog 27 #[.string s] w fun e w' => e = .returned (.func (.func 46) #[] #[.pointer (some ⟨w.heap.size, 0, none⟩)]) ∧ w' = w.alloc (.cells #[.string s] 9 (0, 0)) := by
  go_enter Tryz.func27, Tryz.ntmps27
  go_wp2_with fail
  go_ret
  exact ⟨rfl, rfl⟩

def PrPost (s : List UInt8) (w : World) (e : Ending) (w' : World) : Prop :=
  ∃ v qs, e = .returned (.tuple #[v, .int .i64 (((parseF s).2.1 : Nat) : Int), .int .i64 (((parseF s).2.2 : Nat) : Int)]) ∧ TrRow w' w.heap.size v qs ∧ qs.map (fun q => (q.name.data.toList, q.since, q.til)) = (parseF s).1.map (fun r => (r.1, ((r.2.1 : Nat) : Int), ((r.2.2 : Nat) : Int))) ∧ Below w.heap.size w w'

def qv (q : Qu) : List UInt8 × Int × Int := (q.name.data.toList, q.since, q.til)
def rv (r : TR) : List UInt8 × Int × Int := (r.1, ((r.2.1 : Nat) : Int), ((r.2.2 : Nat) : Int))
def seenN (acc : List Qu) : ByteArray → Option Value := fun x => if x.data.toList ∈ acc.map (·.name.data.toList) then some (.bool true) else none
/-- what lies while the rounds run -/
structure PM (w : World) (rec : Loop) (acc : List Qu) (t : List UInt8) (W : World) : Prop where
  r0 : W.heap[w.heap.size]? = some (.cells #[.slice none 0 0] 23 (0, 0))
  r1 : W.heap[w.heap.size + 1]? = some (.cells #[.int .i64 0] 3 (0, 0))
  r2 : W.heap[w.heap.size + 2]? = some (.cells #[.int .i64 0] 24 (0, 0))
  ob : ∃ v, W.heap[w.heap.size + 3]? = some (.cells #[v] 23 (0, 0)) ∧ TrRow W (w.heap.size + 9) v acc
  mp : MapF .string Value.string W (w.heap.size + 4) (seenN acc)
  mc : W.heap[w.heap.size + 5]? = some (.cells #[.map (some (w.heap.size + 4))] 49 (0, 0))
  sb : W.heap[w.heap.size + 6]? = some (.cells #[.string ⟨t.toArray⟩] 9 (0, 0))
  dd : W.heap[w.heap.size + 7]? = some (.deferred (some []))
  ll : W.heap[w.heap.size + 8]? = some (.loop rec)
  bl : Below w.heap.size w W
theorem PM.drewN {w : World} {rec : Loop} {acc : List Qu} {t : List UInt8} {W : World} (h : PM w rec acc t W) (q : Nat) : PM w rec acc t (W.drewN q) :=
  ⟨h.r0, h.r1, h.r2, h.ob, h.mp, h.mc, h.sb, h.dd, h.ll, ⟨h.bl.os, h.bl.tape, h.bl.output, h.bl.size, h.bl.block⟩⟩
theorem parse_step {f k : Nat} {A : List TR} {t : List UInt8} (ht : t ≠ []) : parseTo (f + 1) k A t = if 4096 < k then ([], k, 15) else match oneF (lineF t) with
    | (0, r) => if r.1 ∈ A.map (·.1) then ([], k, 7) else parseTo f (k + 1) (A ++ [r]) (Lib.cut t [10]).2.1
    | (e, _) => ([], k, e) := by
  rw [parseTo, if_neg ht]
  by_cases h1 : 4096 < k
  · rw [if_pos h1, if_pos h1]
  · rw [if_neg h1, if_neg h1]
    unfold lineF Lib.cut
    by_cases h2 : Lib.index t [10] < 0
    · have h3 : ¬ 0 ≤ Lib.index t [10] := by omega
      simp only [h2, h3, if_true, if_false, Bool.false_eq_true]
      rw [one_zero]
      rfl
    · have h3 : 0 ≤ Lib.index t [10] := by omega
      simp only [h2, h3, if_true, if_false]
      rfl
theorem PM.wrote {w : World} {rec rec' : Loop} {acc : List Qu} {t t' : List UInt8} {W W1 : World} {b : Nat} {o : Obj} (h : PM w rec acc t W) (hw : Wrote b o W W1) (hb : b = w.heap.size + 6 ∨ b = w.heap.size + 8)
    (h6 : W1.heap[w.heap.size + 6]? = some (.cells #[.string ⟨t'.toArray⟩] 9 (0, 0))) (h8 : W1.heap[w.heap.size + 8]? = some (.loop rec')) : PM w rec' acc t' W1 := by
  have hne : ∀ k, k ≠ w.heap.size + 6 → k ≠ w.heap.size + 8 → W1.heap[k]? = W.heap[k]? := fun k h1 h2 => hw.block k (by omega)
  obtain ⟨v, hv, hr⟩ := h.ob
  exact ⟨(hne _ (by omega) (by omega)).trans h.r0, (hne _ (by omega) (by omega)).trans h.r1, (hne _ (by omega) (by omega)).trans h.r2,
    ⟨v, (hne _ (by omega) (by omega)).trans hv, ownsRow_wrote hr hw (by omega)⟩, h.mp.of_block (hne _ (by omega) (by omega)), (hne _ (by omega) (by omega)).trans h.mc, h6,
    (hne _ (by omega) (by omega)).trans h.dd, h8, h.bl.trans ((hw.below (by omega)))⟩
theorem wrote_putObj {W : World} {l : Nat} {o0 : Obj} (o : Obj) (h : W.heap[l]? = some o0) : Wrote l o W (W.putObj l o) :=
  ⟨rfl, rfl, rfl, by simp [World.putObj], World.putObj_heap_same (Array.getElem?_eq_some_iff.1 h).1, fun k hk => World.putObj_heap_other hk⟩
theorem PM.loop {w : World} {rec : Loop} {acc : List Qu} {t : List UInt8} {W : World} (h : PM w rec acc t W) (rec' : Loop) : PM w rec' acc t (W.putObj (w.heap.size + 8) (.loop rec')) :=
  h.wrote (wrote_putObj _ h.ll) (.inr rfl) ((World.putObj_heap_other (by omega)).trans h.sb) (World.putObj_heap_same (Array.getElem?_eq_some_iff.1 h.ll).1)
theorem PM.put {w : World} {rec : Loop} {acc : List Qu} {t : List UInt8} {W : World} (h : PM w rec acc t W) (t' : List UInt8) : PM w rec acc t' (W.setCell ⟨w.heap.size + 6, 0, none⟩ (.string ⟨t'.toArray⟩)) := by
  have hw := wrote_setCell h.sb 0 (.string ⟨t'.toArray⟩)
  exact h.wrote hw (.inl rfl) hw.at_ ((hw.block _ (by omega)).trans h.ll)
theorem PM.next {w : World} {rec : Loop} {acc : List Qu} {t : List UInt8} {W W1 : World} (h : PM w rec acc t W) (hb : Below W.heap.size W W1) : PM w rec acc t W1 := by
  have lt : ∀ {k : Nat} {o : Obj}, W.heap[k]? = some o → k < W.heap.size := fun hk => (Array.getElem?_eq_some_iff.1 hk).1
  obtain ⟨v, hv, hr⟩ := h.ob
  exact ⟨(hb.block _ (lt h.r0)).trans h.r0, (hb.block _ (lt h.r1)).trans h.r1, (hb.block _ (lt h.r2)).trans h.r2, ⟨v, (hb.block _ (lt hv)).trans hv, ownsRow_below hr hb⟩, h.mp.below hb,
    (hb.block _ (lt h.mc)).trans h.mc, (hb.block _ (lt h.sb)).trans h.sb, (hb.block _ (lt h.dd)).trans h.dd, (hb.block _ (lt h.ll)).trans h.ll, h.bl.trans (hb.mono h.bl.size)⟩
def PJ (s : List UInt8) (w : World) (rec : Loop) (k : Nat) (t : List UInt8) (W : World) : Prop :=
  ∃ (acc : List Qu) (A : List TR) (f : Nat), PM w rec acc t W ∧ acc.map qv = A.map rv ∧ parseTo f k A t = parseF s ∧ t.length < f ∧ k + t.length ≤ s.length + 1 ∧ acc.length + 1 = k
def PJm (s : List UInt8) (w : World) (rec : Loop) (k : Nat) (t : List UInt8) (W : World) : Prop :=
  ∃ (acc : List Qu) (A : List TR) (f : Nat), PM w rec acc t W ∧ acc.map qv = A.map rv ∧ parseTo f (k + 1) A (Lib.cut t [10]).2.1 = parseF s ∧ (Lib.cut t [10]).2.1.length < f ∧ k + 1 + (Lib.cut t [10]).2.1.length ≤ s.length + 1 ∧ acc.length = k
theorem names_eq {acc : List Qu} {A : List TR} (h : acc.map qv = A.map rv) : acc.map (·.name.data.toList) = A.map (·.1) := by
  have := congrArg (List.map (·.1)) h
  rw [List.map_map, List.map_map] at this
  exact this
def PJx (s : List UInt8) (w : World) (rec : Loop) (W : World) : Prop :=
  ∃ n e : Nat, parseF s = ([], n, e) ∧ W.heap[w.heap.size]? = some (.cells #[.slice none 0 0] 23 (0, 0)) ∧ W.heap[w.heap.size + 1]? = some (.cells #[.int .i64 (n : Nat)] 3 (0, 0)) ∧
    W.heap[w.heap.size + 2]? = some (.cells #[.int .i64 (e : Nat)] 24 (0, 0)) ∧ W.heap[w.heap.size + 7]? = some (.deferred (some [])) ∧ W.heap[w.heap.size + 8]? = some (.loop { rec with state := .done, pending := some .ret }) ∧ Below w.heap.size w W

set_option maxRecDepth 100000 in
set_option maxHeartbeats 3200000 in
theorem parse_any (s : ByteArray) (m : Int) (ev : Value) (hsz : s.size ≤ 900000) (w : World) (hm : w.cell? ⟨0, 0, none⟩ = some (.int .i64 m)) (hml : 0 < w.heap.size)
    (hv : w.cell? ⟨2, 0, none⟩ = some ev) (hvl : 2 < w.heap.size) (hev : ev = .nilIface ∨ ∃ te pe, ev = .iface te pe) :
    Calls Tryz.prog 10 #[.string s] w (PrPost s.data.toList w) := by
  refine (callsIn_wide (n := 10)).1 (callsIn_of_wp_marks Tryz.func10 rfl trivial (wpIn_wide.2 ?_) rfl)
  simp only [Tryz.ntmps10, List.size_toArray, List.length_cons, List.length_nil, Nat.reduceAdd, Nat.reduceSub, Array.replicate_succ, Array.replicate_zero, List.push_toArray, List.append_toArray, List.nil_append, List.cons_append]
  have hmm : ∀ W : World, (Instr.makeMap 49 none).run Tryz.prog W = .ok (.map (some W.heap.size)) (W.alloc (.map #[] 0)) := fun W => run_makeMap _ W
  go_wp2_with fail
  obtain ⟨W6, hW6⟩ : ∃ W6, ((((((w.alloc (.cells #[.slice none 0 0] 23)).alloc (.cells #[.int .i64 0] 3)).alloc (.cells #[.int .i64 0] 24)).alloc (.cells #[.slice none 0 0] 23)).alloc (.map #[] 0)).alloc
      (.cells #[.map (some (w.heap.size + 1 + 1 + 1 + 1))] 49)) = W6 := ⟨_, rfl⟩
  rw [hW6]
  refine (linesf_any s W6).mono ?_
  rintro e w7 ⟨rfl, rfl⟩
  have hs6 : W6.heap.size = w.heap.size + 6 := by rw [← hW6]; simp
  have h6 : ∀ k (hk : k < w.heap.size + 6), (W6.alloc (.cells #[.string s] 9 (0, 0))).heap[k]? = W6.heap[k]? := fun k hk => hp_old (by omega)
  have HPM : ∀ (rec : Loop) (W1 : World), Below (w.heap.size + 7) (W6.alloc (.cells #[.string s] 9 (0, 0))) W1 → W1.heap[w.heap.size + 7]? = some (.deferred (some [])) → W1.heap[w.heap.size + 8]? = some (.loop rec) → PM w rec [] s.data.toList W1 := by
    intro rec W1 hb hd hl
    have hk : ∀ k, k < w.heap.size + 6 → W1.heap[k]? = W6.heap[k]? := fun k hk => (hb.block k (by omega)).trans (h6 k hk)
    refine ⟨(hk _ (by omega)).trans ?_, (hk _ (by omega)).trans ?_, (hk _ (by omega)).trans ?_, ⟨.slice none 0 0, (hk _ (by omega)).trans ?_, World.ownsRow_nil _ _ _ _⟩, ?_, (hk _ (by omega)).trans ?_, (hb.block _ (by omega)).trans (hp_new (by omega)), hd, hl, ?_⟩
    · rw [← hW6]; exact (hp_old (by simp; try omega)).trans ((hp_old (by simp; try omega)).trans ((hp_old (by simp; try omega)).trans ((hp_old (by simp; try omega)).trans ((hp_old (by simp; try omega)).trans (hp_new rfl)))))
    · rw [← hW6]; exact (hp_old (by simp; try omega)).trans ((hp_old (by simp; try omega)).trans ((hp_old (by simp; try omega)).trans ((hp_old (by simp; try omega)).trans (hp_new (by simp; try omega)))))
    · rw [← hW6]; exact (hp_old (by simp; try omega)).trans ((hp_old (by simp; try omega)).trans ((hp_old (by simp; try omega)).trans (hp_new (by simp; try omega))))
    · rw [← hW6]; exact (hp_old (by simp; try omega)).trans ((hp_old (by simp; try omega)).trans (hp_new (by simp; try omega)))
    · refine MapF.of_block (w := (((((w.alloc (.cells #[.slice none 0 0] 23)).alloc (.cells #[.int .i64 0] 3)).alloc (.cells #[.int .i64 0] 24)).alloc (.cells #[.slice none 0 0] 23)).alloc (.map #[] 0))) ((mapF_new (by simp; try omega) 0).congr fun a => rfl) ((hk _ (by omega)).trans ?_)
      rw [← hW6]; exact hp_old (by simp; try omega)
    · rw [← hW6]; exact hp_new (by simp; try omega)
    · have h1 : Below w.heap.size w W6 := by rw [← hW6]; exact ((((((Below.refl _ w).alloc (Nat.le_refl _) _).alloc (by simp; try omega) _).alloc (by simp; try omega) _).alloc (by simp; try omega) _).alloc (by simp; try omega) _).alloc (by simp; try omega) _
      exact (h1.alloc (by omega) _).trans (hb.mono (by omega))
  have hs7 : (W6.alloc (.cells #[.string s] 9 (0, 0))).heap.size = w.heap.size + 7 := by simp [hs6]
  generalize W6.alloc (.cells #[.string s] 9 (0, 0)) = W7 at *
  rw [hs6]
  clear hW6 h6 hmm hs6
  go_wp2_with fail
  refine wpIn_wide.1 (range_enter (n := 10) 46 #[.pointer (some ⟨w.heap.size + 6, 0, none⟩)] rfl (enters_of Tryz.func46 (by kernel_rfl) rfl) ?_)
  intro fn W1 hb1 hs1 hd1 hl1
  rw [hs7] at hb1 hs1 hd1 hl1 ⊢
  obtain ⟨rec, hl1', hrec⟩ : ∃ rec, W1.heap[w.heap.size + 7 + 1]? = some (.loop rec) ∧ rec = _ := ⟨_, hl1, rfl⟩
  have HREC := Lib.hid hrec
  have hpm := HPM rec W1 hb1 hd1 hl1'
  clear hl1 hrec HPM hb1 hd1 hl1'
  refine (lines_it (w.heap.size + 8) (w.heap.size + 6) (10 - 1) m (PJ s.data.toList w rec) (PJm s.data.toList w rec) (PJx s.data.toList w rec) ?hc ?hd ?hY ?hm W1 s.data.toList ?h0).mono ?fin
  case hd =>
    rintro k t W q ⟨acc, A, f, hp, h2⟩
    exact ⟨acc, A, f, hp.drewN q, h2⟩
  case h0 => exact ⟨[], [], s.data.toList.length + 1, hpm, rfl, rfl, Nat.lt_succ_self _, by omega, rfl⟩
  case hc =>
    rintro k t W ⟨acc, A, f, hp, _, _, _, hk, ha⟩
    have h1 := Lib.size_eq s
    exact ⟨cell_of_blk hp.sb 0, (hp.bl.cell (p := ⟨0, 0, none⟩) hml).trans hm, by omega, by omega⟩
  case hm =>
    rintro k t W ⟨acc, A, f, hp, h1, h2, h3, h4, h5⟩
    exact ⟨cell_of_blk hp.sb 0, free_of_blk hp.sb 0, acc, A, f, hp.put _, h1, h2, h3, h4, by omega⟩
  case hY =>
    intro k t W ht hj
    obtain ⟨acc, A, f, hp, h1, h2, h3, h4, h5⟩ := hj
    obtain ⟨f, rfl⟩ : ∃ g, f = g + 1 := ⟨f - 1, by omega⟩
    rw [parse_step ht] at h2
    have hra := congrArg Loop.assign HREC.out
    have hrb := congrArg Loop.body HREC.out
    have hrt := congrArg Loop.tmps HREC.out
    have hrp := congrArg Loop.params HREC.out
    have hrs := congrArg Loop.state HREC.out
    have hre := congrArg Loop.pending HREC.out
    dsimp only at hra hrb hrt hrp hrs hre
    have HRS : Hid (rec.state = .ready ∧ rec.pending = none) := ⟨hrs, hre⟩
    clear hre
    refine ⟨rec.fn, _, rec.assign, rec.body, run_yield hp.ll (by rw [hrp]; rfl), roundIn_of_wpIn trivial ?_⟩
    have hbr := run_beginRound (P := Tryz.prog) hp.ll hrs
    rw [hra, hrb, hrt, hrp]
    clear hra hrb hrt hrp HREC hpm
    obtain ⟨W2, hW2⟩ : ∃ W2, W.putObj (w.heap.size + 8) (.loop { rec with state := .busy }) = W2 := ⟨_, rfl⟩
    have HP2 : Hid (PM w { rec with state := .busy } acc t W2) := by unfold Hid; rw [← hW2]; exact hp.loop _
    rw [hW2] at hbr
    clear hW2 hp
    gi_wp2
    refine ⟨W2, hbr, ?_⟩
    clear hbr hrs
    have c0 : W2.cell? ⟨w.heap.size, 0, none⟩ = some (.slice none 0 0) := cell_of_blk HP2.out.r0 0
    have c1 : W2.cell? ⟨w.heap.size + 1, 0, none⟩ = some (.int .i64 0) := cell_of_blk HP2.out.r1 0
    have c2 : W2.cell? ⟨w.heap.size + 1 + 1, 0, none⟩ = some (.int .i64 0) := cell_of_blk HP2.out.r2 0
    have f0 : W2.frozen? ⟨w.heap.size, 0, none⟩ = false := free_of_blk HP2.out.r0 0
    have f1 : W2.frozen? ⟨w.heap.size + 1, 0, none⟩ = false := free_of_blk HP2.out.r1 0
    have f2 : W2.frozen? ⟨w.heap.size + 1 + 1, 0, none⟩ = false := free_of_blk HP2.out.r2 0
    have HST : Hid (∀ (W3 : World) (n er : Nat), PM w { rec with state := .busy } acc t W3 → parseF s.data.toList = ([], n, er) → ∃ W5, (Instr.endRound (w.heap.size + 8) (some .ret)).run Tryz.prog (((W3.setCell ⟨w.heap.size, 0, none⟩ (.slice none 0 0)).setCell ⟨w.heap.size + 1, 0, none⟩ (.int .i64 (n : Nat))).setCell ⟨w.heap.size + 1 + 1, 0, none⟩ (.int .i64 (er : Nat))) = .ok (.bool false) W5 ∧ PJx s.data.toList w rec W5) := by
      intro W3 n er hp hpf
      have w1 := wrote_setCell hp.r0 0 (.slice none 0 0)
      have r1' := (w1.block (w.heap.size + 1) (by omega)).trans hp.r1
      have w2 := wrote_setCell r1' 0 (.int .i64 (n : Nat))
      have r2' := (w2.block (w.heap.size + 2) (by omega)).trans ((w1.block _ (by omega)).trans hp.r2)
      have w3 := wrote_setCell r2' 0 (.int .i64 (er : Nat))
      have l8 := (w3.block (w.heap.size + 8) (by omega)).trans ((w2.block _ (by omega)).trans ((w1.block _ (by omega)).trans hp.ll))
      have w4 := wrote_putObj (.loop { { rec with state := .busy } with state := .done, pending := some .ret }) l8
      refine ⟨_, run_endRound (some .ret) l8, n, er, hpf, ?_, ?_, ?_, ?_, ?_, ?_⟩
      · exact (w4.block _ (by omega)).trans ((w3.block _ (by omega)).trans ((w2.block _ (by omega)).trans w1.at_))
      · exact (w4.block _ (by omega)).trans ((w3.block _ (by omega)).trans w2.at_)
      · exact (w4.block _ (by omega)).trans w3.at_
      · exact (w4.block _ (by omega)).trans ((w3.block _ (by omega)).trans ((w2.block _ (by omega)).trans ((w1.block _ (by omega)).trans hp.dd)))
      · exact w4.at_
      · exact hp.bl.trans ((w1.below (Nat.le_refl _)).trans ((w2.below (by omega)).trans ((w3.below (by omega)).trans (w4.below (by omega)))))
    by_cases hk : 4096 < k
    · have hki : (4096 : Int) < ((k : Nat) : Int) := by omega
      rw [if_pos hk] at h2
      gi_wp2_with fail
      obtain ⟨W5, hr, hx⟩ := HST.out W2 k 15 HP2.out h2.symm
      exact ⟨_, W5, hr, .inr ⟨rfl, hx⟩⟩
    · have hki : decide ((4096 : Int) < ((k : Nat) : Int)) = false := decide_eq_false (by omega)
      have hkn : decide (4096 < k) = false := decide_eq_false hk
      rw [if_neg hk] at h2
      have RS := Lib.hid (result_any ⟨(lineF t).toArray⟩ m ev (by
        have e1 := Lib.size_eq s
        have e2 : (lineF t).length ≤ t.length + 1 := by
          have h9 := cut_fst t
          unfold lineF
          split
          · omega
          · rw [List.length_append]; exact Nat.succ_le_succ h9
        rw [Lib.size_eq]
        show (lineF t).length ≤ 1000000
        omega) W2 ((HP2.out.bl.cell (p := ⟨0, 0, none⟩) hml).trans hm) (Nat.lt_of_lt_of_le hml HP2.out.bl.size) ((HP2.out.bl.cell (p := ⟨2, 0, none⟩) hvl).trans hv) (Nat.lt_of_lt_of_le hvl HP2.out.bl.size) hev)
      clear hk c0 c1 c2 f0 f1 f2
      gi_wp2_with fail
      refine ⟨trivial, ?_⟩
      refine (CallsIn.inRound (w.heap.size + 8) (callsIn_wide.2 RS.out)).mono ?_
      rintro e w3 ⟨nm, rfl, hn, hb⟩
      have HP3 := Lib.hid (HP2.out.next hb)
      have HN : Hid (nm.data.toList = (oneF (lineF t)).2.1) := hn
      clear hn hb RS HP2
      dsimp only
      obtain ⟨x, hx⟩ : ∃ x, oneF (lineF t) = x := ⟨_, rfl⟩
      rw [hx] at HN h2 ⊢
      clear hx
      obtain ⟨er, r⟩ := x
      dsimp only at HN h2 ⊢
      obtain ⟨W4, hW4⟩ : ∃ W4, w3.alloc (.cells #[.string nm, .int .i64 ((r.2.1 : Nat) : Int), .int .i64 ((r.2.2 : Nat) : Int)] 41 (0, 0)) = W4 := ⟨_, rfl⟩
      have HB34 : Hid (Below w3.heap.size w3 W4) := by unfold Hid; rw [← hW4]; exact (Below.refl _ _).alloc (Nat.le_refl _) _
      have HP4 : Hid (PM w { rec with state := .busy } acc t W4) := HP3.out.next HB34.out
      have HRB : Hid (W4.heap[w3.heap.size]? = some (.cells #[.string nm, .int .i64 ((r.2.1 : Nat) : Int), .int .i64 ((r.2.2 : Nat) : Int)] 41 (0, 0))) := by unfold Hid; rw [← hW4]; exact hp_new rfl
      have c0 : W4.cell? ⟨w.heap.size, 0, none⟩ = some (.slice none 0 0) := cell_of_blk HP4.out.r0 0
      have c1 : W4.cell? ⟨w.heap.size + 1, 0, none⟩ = some (.int .i64 0) := cell_of_blk HP4.out.r1 0
      have c2 : W4.cell? ⟨w.heap.size + 1 + 1, 0, none⟩ = some (.int .i64 0) := cell_of_blk HP4.out.r2 0
      have f0 : W4.frozen? ⟨w.heap.size, 0, none⟩ = false := free_of_blk HP4.out.r0 0
      have f1 : W4.frozen? ⟨w.heap.size + 1, 0, none⟩ = false := free_of_blk HP4.out.r1 0
      have f2 : W4.frozen? ⟨w.heap.size + 1 + 1, 0, none⟩ = false := free_of_blk HP4.out.r2 0
      have HW4 := Lib.hid hW4
      cases er with
      | succ e =>
        have t1 : (((e + 1 : Nat) : Int) != 0) = true := by rw [bne_iff_ne]; omega
        have t1' : (((e : Nat) : Int) + 1 != 0) = true := by rw [bne_iff_ne]; omega
        clear HP3 HB34
        gi_wp2_with fail
        obtain ⟨W5, hr, hx⟩ := HST.out W4 k (e + 1) HP4.out h2.symm
        exact ⟨_, W5, hr, .inr ⟨rfl, hx⟩⟩
      | zero =>
        have c5 : W4.cell? ⟨w.heap.size + 1 + 1 + 1 + 1 + 1, 0, none⟩ = some (.map (some (w.heap.size + 4))) := cell_of_blk HP4.out.mc 0
        have d0 : W4.cell? ⟨w3.heap.size, 0, none⟩ = some (.string nm) := cell_of_blk HRB.out 0
        have d1 : W4.cell? ⟨w3.heap.size, 1, none⟩ = some (.int .i64 ((r.2.1 : Nat) : Int)) := cell_of_blk HRB.out 1
        have d2 : W4.cell? ⟨w3.heap.size, 2, none⟩ = some (.int .i64 ((r.2.2 : Nat) : Int)) := cell_of_blk HRB.out 2
        have LK := MapF.lookup (P := Tryz.prog) HP4.out.mp Tryz.underlying49 Tryz.underlying9 (z := .bool false) (by kernel_rfl) (a := nm) trivial false
        change (if r.1 ∈ A.map (·.1) then ([], k, 7) else parseTo f (k + 1) (A ++ [r]) (Lib.cut t [10]).2.1) = parseF s.data.toList at h2
        by_cases hin : r.1 ∈ A.map (·.1)
        · have e : seenN acc nm = some (.bool true) := by unfold seenN; rw [names_eq h1, HN.out, if_pos hin]
          rw [e] at LK
          simp only [Option.getD_some, if_false, Bool.false_eq_true] at LK
          rw [if_pos hin] at h2
          clear HP3 HB34
          gi_wp2_with fail
          obtain ⟨W5, hr, hx⟩ := HST.out W4 k 7 HP4.out h2.symm
          exact ⟨_, W5, hr, .inr ⟨rfl, hx⟩⟩
        · have e : seenN acc nm = none := by unfold seenN; rw [names_eq h1, HN.out, if_neg hin]
          rw [e] at LK
          simp only [Option.getD_none, if_false, Bool.false_eq_true] at LK
          rw [if_neg hin] at h2
          obtain ⟨q, hq⟩ : ∃ q : Qu, q = ⟨nm, ((r.2.1 : Nat) : Int), ((r.2.2 : Nat) : Int)⟩ := ⟨_, rfl⟩
          obtain ⟨o5, W5, hup, hw5, hm5⟩ := MapF.update (P := Tryz.prog) HP4.out.mp Tryz.underlying49 Tryz.underlying9 (a := nm) trivial (fun b hb => by injection hb) (.bool true) (f' := seenN (acc ++ [q]))
            (by unfold seenN; rw [List.map_append, hq]; simp) (fun b hb => by
              unfold seenN
              have hne : b.data.toList ≠ nm.data.toList := fun h => hb (by cases b; cases nm; simp at h; simp [h])
              rw [List.map_append, hq]
              simp [hne])
          have hw5n : ∀ j, j ≠ w.heap.size + 4 → W5.heap[j]? = W4.heap[j]? := fun j hj => hw5.block j hj
          obtain ⟨ov, hov, hrow⟩ := HP4.out.ob
          obtain ⟨oa, oc, rfl⟩ := ownsRow_form hrow
          have g3 : W5.cell? ⟨w.heap.size + 1 + 1 + 1, 0, none⟩ = some (.slice oa acc.length oc) := cell_of_blk ((hw5n (w.heap.size + 3) (by omega)).trans hov) 0
          have k3 : W5.frozen? ⟨w.heap.size + 1 + 1 + 1, 0, none⟩ = false := free_of_blk ((hw5n (w.heap.size + 3) (by omega)).trans hov) 0
          have hs3 : w.heap.size + 8 < w3.heap.size := (Array.getElem?_eq_some_iff.1 HP3.out.ll).1
          have g0 : W5.cell? ⟨w3.heap.size, 0, none⟩ = some (.string nm) := cell_of_blk ((hw5n _ (by omega)).trans HRB.out) 0
          have g1 : W5.cell? ⟨w3.heap.size, 1, none⟩ = some (.int .i64 ((r.2.1 : Nat) : Int)) := cell_of_blk ((hw5n _ (by omega)).trans HRB.out) 1
          have g2 : W5.cell? ⟨w3.heap.size, 2, none⟩ = some (.int .i64 ((r.2.2 : Nat) : Int)) := cell_of_blk ((hw5n _ (by omega)).trans HRB.out) 2
          have HROW5 : Hid (TrRow W5 (w.heap.size + 9) (.slice oa acc.length oc) acc) := ownsRow_wrote hrow hw5 (by omega)
          obtain ⟨i45, hi45, hz1, hz2, hz3⟩ := Tryz.info45'
          have hsb5 : w.heap.size + 9 ≤ W5.heap.size := by rw [hw5.size]; have := HB34.out.size; omega
          have hal : acc.length ≤ 1000001 := by have := Lib.size_eq s; omega
          clear c0 c1 c2 f0 f1 f2
          gi_wp2_with (gi_at_builtin; refine wpListIn_append_own _ rfl _ _ 23 rfl (w.heap.size + 9) 41 i45 _ 3 32 Tryz.underlying23 hi45 hz1 hz2 hz3 rfl (by decide) _ _ _ rfl (World.ownsRow.alloc HROW5.out _) ⟨W5.heap.size, 0, none⟩ 1 1 [.string nm, .int .i64 ((r.2.1 : Nat) : Int), .int .i64 ((r.2.2 : Nat) : Int)] rfl rfl (cells_newAt rfl _ 41 (0, 0)) (by simp [Value.oneCell']) (by unfold maxLen; omega) (by omega) (by simp; omega) ?_; intro v' w6 hown hgrow _; obtain ⟨va, vc, rfl⟩ := ownsRow_form hown; have q3 := (hgrow.block (w.heap.size + 3) (by simp; omega) (fun e => (by have := (World.ownsRow.lt HROW5.out _ e.symm).1; omega))).trans ((hp_old (by omega)).trans ((hw5n (w.heap.size + 3) (by omega)).trans hov)); have q3c := cell_of_blk q3 0; have q3f := free_of_blk q3 0; change w6.cell? ⟨w.heap.size + 1 + 1 + 1, 0, none⟩ = _ at q3c; change w6.frozen? ⟨w.heap.size + 1 + 1 + 1, 0, none⟩ = _ at q3f)
          have hb6 : ∀ j, j < w.heap.size + 9 → w6.heap[j]? = W5.heap[j]? := fun j hj => (hgrow.block j (by simp; omega) (fun e => (by have := (World.ownsRow.lt HROW5.out _ e.symm).1; omega))).trans (hp_old (by omega))
          have hb56 : Below w.heap.size W5 w6 := ⟨hgrow.os, hgrow.tape, hgrow.output, Nat.le_trans (by simp) hgrow.size, fun j hj => hb6 j (by omega)⟩
          have w7 := wrote_setCell q3 0 (.slice va k vc)
          obtain ⟨W7, hW7⟩ : ∃ W7, w6.setCell ⟨w.heap.size + 3, 0, none⟩ (.slice va k vc) = W7 := ⟨_, rfl⟩
          change roundPost _ _ _ _ _ (w6.setCell ⟨w.heap.size + 3, 0, none⟩ (.slice va k vc))
          rw [hW7] at w7 ⊢
          have hk7 : ∀ j, j < w.heap.size + 9 → j ≠ w.heap.size + 3 → j ≠ w.heap.size + 4 → W7.heap[j]? = W4.heap[j]? := fun j hj h3' h4' => (w7.block j h3').trans ((hb6 j hj).trans (hw5n j h4'))
          have hown7 : TrRow W7 (w.heap.size + 9) (.slice va k vc) (acc ++ [q]) := by
            have e1 : (acc ++ [q]).length = k := by rw [List.length_append]; exact h5
            have e2 : (acc ++ [q]).flatMap Qu.cells = acc.flatMap Qu.cells ++ [Value.string nm, .int .i64 ((r.2.1 : Nat) : Int), .int .i64 ((r.2.2 : Nat) : Int)] := by rw [List.flatMap_append, hq]; rfl
            unfold TrRow
            rw [e1, e2]
            rw [h5] at hown
            exact ownsRow_wrote hown w7 (by omega)
          have HP7 : PM w { rec with state := .busy } (acc ++ [q]) t W7 :=
            ⟨(hk7 _ (by omega) (by omega) (by omega)).trans HP4.out.r0, (hk7 _ (by omega) (by omega) (by omega)).trans HP4.out.r1, (hk7 _ (by omega) (by omega) (by omega)).trans HP4.out.r2,
              ⟨_, w7.at_, hown7⟩, hm5.of_block ((w7.block _ (by omega)).trans (hb6 _ (by omega))), (hk7 _ (by omega) (by omega) (by omega)).trans HP4.out.mc, (hk7 _ (by omega) (by omega) (by omega)).trans HP4.out.sb,
              (hk7 _ (by omega) (by omega) (by omega)).trans HP4.out.dd, (hk7 _ (by omega) (by omega) (by omega)).trans HP4.out.ll, HP4.out.bl.trans ((hw5.below (by omega)).trans (hb56.trans (w7.below (by omega))))⟩
          have hrr : { { rec with state := LoopState.busy } with state := .ready, pending := none } = rec := by
            obtain ⟨a1, a2⟩ := HRS.out
            cases rec
            simp only at a1 a2
            rw [a1, a2]
          have hcl := cut_less ht
          refine ⟨_, _, run_endRound none HP7.ll, .inl ⟨rfl, acc ++ [q], A ++ [r], f, ?_, ?_, h2, by omega, by omega, by rw [List.length_append]; exact h5⟩⟩
          · show PM w rec (acc ++ [q]) t (W7.putObj (w.heap.size + 8) (.loop { { rec with state := LoopState.busy } with state := .ready, pending := none }))
            rw [hrr]
            exact HP7.loop rec
          · rw [List.map_append, List.map_append, h1, hq]
            show _ ++ [qv ⟨nm, _, _⟩] = _ ++ [rv r]
            unfold qv rv
            rw [HN.out]
  case fin =>
    rintro e W2 ⟨⟨rvv, rfl⟩, ⟨k, acc, A, f, hp, h1, h2, h3, h4, h5⟩ | hx⟩
    · have hst : rec.state ≠ .busy := by rw [HREC.out]; exact fun h => by cases h
      have hpe : rec.pending = none := by rw [HREC.out]
      refine ⟨rec.pending, _, run_endLoop hp.ll hst, ?_⟩
      rw [hpe]
      obtain ⟨W3, hW3⟩ : ∃ W3, W2.putObj (w.heap.size + 7 + 1) (.loop { rec with state := .exhausted, pending := none }) = W3 := ⟨_, rfl⟩
      have HP : Hid (PM w { rec with state := .exhausted, pending := none } acc [] W3) := by unfold Hid; rw [← hW3]; exact hp.loop _
      rw [hW3]
      have HA := Lib.hid h1
      have HF : Hid (parseF s.data.toList = (A, 0, 0)) := by
        unfold Hid
        rw [← h2]
        cases f with
        | zero => rfl
        | succ f => rw [parseTo, if_pos rfl]
      clear hp hW3 h1 h2 h3 h4 h5
      obtain ⟨v, hv3, hrow⟩ := HP.out.ob
      obtain ⟨oa, oc, rfl⟩ := ownsRow_form hrow
      have HROW := Lib.hid hrow
      have c3 : W3.cell? ⟨w.heap.size + 1 + 1 + 1, 0, none⟩ = some (.slice oa acc.length oc) := cell_of_blk hv3 0
      have c0 : W3.cell? ⟨w.heap.size, 0, none⟩ = some (.slice none 0 0) := cell_of_blk HP.out.r0 0
      have c1 : W3.cell? ⟨w.heap.size + 1, 0, none⟩ = some (.int .i64 0) := cell_of_blk HP.out.r1 0
      have c2 : W3.cell? ⟨w.heap.size + 1 + 1, 0, none⟩ = some (.int .i64 0) := cell_of_blk HP.out.r2 0
      have f0 : W3.frozen? ⟨w.heap.size, 0, none⟩ = false := free_of_blk HP.out.r0 0
      have f1 : W3.frozen? ⟨w.heap.size + 1, 0, none⟩ = false := free_of_blk HP.out.r1 0
      have f2 : W3.frozen? ⟨w.heap.size + 1 + 1, 0, none⟩ = false := free_of_blk HP.out.r2 0
      clear hv3 hrow
      dsimp only
      go_wp2_with fail
      have w1 := wrote_setCell HP.out.r0 0 (.slice oa acc.length oc)
      have r1' := (w1.block (w.heap.size + 1) (by omega)).trans HP.out.r1
      have w2 := wrote_setCell r1' 0 (.int .i64 0)
      have r2' := (w2.block (w.heap.size + 2) (by omega)).trans ((w1.block _ (by omega)).trans HP.out.r2)
      have w3 := wrote_setCell r2' 0 (.int .i64 0)
      obtain ⟨W4, hW4⟩ : ∃ W4, ((W3.setCell ⟨w.heap.size, 0, none⟩ (.slice oa acc.length oc)).setCell ⟨w.heap.size + 1, 0, none⟩ (.int .i64 0)).setCell ⟨w.heap.size + 2, 0, none⟩ (.int .i64 0) = W4 := ⟨_, rfl⟩
      have w3' := w3
      rw [hW4] at w3'
      change bodyPostM _ _ _ _ _ _ _ (((W3.setCell ⟨w.heap.size, 0, none⟩ (.slice oa acc.length oc)).setCell ⟨w.heap.size + 1, 0, none⟩ (.int .i64 0)).setCell ⟨w.heap.size + 2, 0, none⟩ (.int .i64 0))
      rw [hW4]
      have k7 : W4.heap[w.heap.size + 7]? = some (.deferred (some [])) := (w3'.block _ (by omega)).trans ((w2.block _ (by omega)).trans ((w1.block _ (by omega)).trans HP.out.dd))
      have HR4 : Hid (TrRow W4 (w.heap.size + 9) (.slice oa acc.length oc) acc) := ownsRow_wrote (ownsRow_wrote (ownsRow_wrote HROW.out w1 (by omega)) w2 (by omega)) w3' (by omega)
      have HB4 : Hid (Below w.heap.size w W4) := HP.out.bl.trans ((w1.below (Nat.le_refl _)).trans ((w2.below (by omega)).trans (w3'.below (by omega))))
      have d0 : W4.heap[w.heap.size]? = some (.cells #[.slice oa acc.length oc] 23 (0, 0)) := (w3'.block _ (by omega)).trans ((w2.block _ (by omega)).trans w1.at_)
      have d1 : W4.heap[w.heap.size + 1]? = some (.cells #[.int .i64 0] 3 (0, 0)) := (w3'.block _ (by omega)).trans w2.at_
      have d2 : W4.heap[w.heap.size + 2]? = some (.cells #[.int .i64 0] 24 (0, 0)) := w3'.at_
      clear hW4 w3' w3 w2 w1 r1' r2' HP HROW c0 c1 c2 c3 f0 f1 f2
      refine ⟨by simp, .inl ⟨_, _, rfl, run_takeDeferred k7, ?_⟩⟩
      have e0 : (W4.putObj (w.heap.size + 7) (.deferred none)).cell? ⟨w.heap.size, 0, none⟩ = some (.slice oa acc.length oc) := cell_of_blk ((World.putObj_heap_other (by omega)).trans d0) 0
      have e1 : (W4.putObj (w.heap.size + 7) (.deferred none)).cell? ⟨w.heap.size + 1, 0, none⟩ = some (.int .i64 0) := cell_of_blk ((World.putObj_heap_other (by omega)).trans d1) 0
      have e2 : (W4.putObj (w.heap.size + 7) (.deferred none)).cell? ⟨w.heap.size + 1 + 1, 0, none⟩ = some (.int .i64 0) := cell_of_blk ((World.putObj_heap_other (k := w.heap.size + 2) (by omega)).trans d2) 0
      have HBF : Hid (Below w.heap.size W4 (W4.putObj (w.heap.size + 7) (.deferred none))) := (wrote_putObj _ k7).below (by omega)
      have HQF : Hid (TrRow (W4.putObj (w.heap.size + 7) (.deferred none)) w.heap.size (.slice oa acc.length oc) acc) := ownsRow_base (ownsRow_wrote HR4.out (wrote_putObj _ k7) (by omega)) (by omega)
      clear HR4
      generalize W4.putObj (w.heap.size + 7) (.deferred none) = W5 at *
      refine ⟨.tuple #[.slice oa acc.length oc, .int .i64 0, .int .i64 0], ?_, ?_⟩
      · simp [results, asAddr, loadVar, e0, e1, e2, go_sem]
      · refine ⟨.slice oa acc.length oc, acc, ?_, HQF.out, ?_, HB4.out.trans HBF.out⟩
        · rw [HF.out]; rfl
        · rw [HF.out]; exact HA.out
    · obtain ⟨n, er, hpf, r0, r1, r2, rd, rl, rb⟩ := hx
      have HF := Lib.hid hpf
      refine ⟨some .ret, _, run_endLoop rl (fun h => by cases h), ?_⟩
      have hw := wrote_putObj (.loop { { rec with state := .done, pending := some .ret } with state := .exhausted }) rl
      obtain ⟨W3, hW3⟩ : ∃ W3, W2.putObj (w.heap.size + 8) (.loop { { rec with state := .done, pending := some .ret } with state := .exhausted }) = W3 := ⟨_, rfl⟩
      rw [hW3] at hw
      have k7 : W3.heap[w.heap.size + 7]? = some (.deferred (some [])) := (hw.block _ (by omega)).trans rd
      have HBF : Hid (Below w.heap.size w (W3.putObj (w.heap.size + 7) (.deferred none))) := (rb.trans (hw.below (by omega))).trans ((wrote_putObj _ k7).below (by omega))
      have e0 : (W3.putObj (w.heap.size + 7) (.deferred none)).cell? ⟨w.heap.size, 0, none⟩ = some (.slice none 0 0) := cell_of_blk ((World.putObj_heap_other (by omega)).trans ((hw.block _ (by omega)).trans r0)) 0
      have e1 : (W3.putObj (w.heap.size + 7) (.deferred none)).cell? ⟨w.heap.size + 1, 0, none⟩ = some (.int .i64 ((n : Nat) : Int)) := cell_of_blk ((World.putObj_heap_other (by omega)).trans ((hw.block _ (by omega)).trans r1)) 0
      have e2 : (W3.putObj (w.heap.size + 7) (.deferred none)).cell? ⟨w.heap.size + 1 + 1, 0, none⟩ = some (.int .i64 ((er : Nat) : Int)) := cell_of_blk ((World.putObj_heap_other (k := w.heap.size + 2) (by omega)).trans ((hw.block _ (by omega)).trans r2)) 0
      rw [hW3]
      clear hW3 hw r0 r1 r2 rd rl rb hpf
      dsimp only
      gi_wp2
      refine ⟨by simp, .inl ⟨_, _, rfl, run_takeDeferred k7, ?_⟩⟩
      generalize W3.putObj (w.heap.size + 7) (.deferred none) = W5 at *
      refine ⟨.tuple #[.slice none 0 0, .int .i64 ((n : Nat) : Int), .int .i64 ((er : Nat) : Int)], ?_, ?_⟩
      · simp [results, asAddr, loadVar, e0, e1, e2, go_sem]
      · refine ⟨.slice none 0 0, [], ?_, ⟨rfl, .inl ⟨rfl, rfl⟩⟩, ?_, HBF.out⟩
        · rw [HF.out]
        · rw [HF.out]; rfl
end Go.Proofs.YtngbjnjkcniabaaGreatDoor
