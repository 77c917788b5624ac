/- How far an execution's lists grow. -/
import Derived.Test.YtghahghbahcpfaaGreatDoorVp1
import Derived.Test.YtghahghbahcpfaaGreatDoorVs61
import Derived.Test.YtghahghbahcpfaaGreatDoorVs9
import Derived.Test.YtghahghbahcpfaaGreatDoorSh5
namespace Go.Proofs.YtghahghbahcpfaaGreatDoor

structure Bd (i : Nat) (x : StM) : Prop where
  rl : x.reads.length ≤ i
  ol : x.outs.length ≤ i
  sl : x.saves.length ≤ i
  ll : x.log.length ≤ i * 100001
  rs : ∀ o ∈ x.reads, o.name.size ≤ 100000
  os : ∀ o ∈ x.outs, o.name.size ≤ 100000
theorem Bd.zero (j : JobM) : Bd 0 (st0 j) := ⟨Nat.le_refl _, Nat.le_refl _, Nat.le_refl _, Nat.zero_le _, fun o h => absurd (show o ∈ ([] : List OutM) from h) List.not_mem_nil, fun o h => absurd (show o ∈ ([] : List OutM) from h) List.not_mem_nil⟩
theorem Bd.up {i k : Nat} {x : StM} (h : Bd i x) (hk : i ≤ k) : Bd k x := ⟨Nat.le_trans h.rl hk, Nat.le_trans h.ol hk, Nat.le_trans h.sl hk, Nat.le_trans h.ll (Nat.mul_le_mul_right _ hk), h.rs, h.os⟩
theorem Bd.time {i : Nat} {x : StM} (h : Bd i x) (t : Int) : Bd i { x with time := t } := ⟨h.rl, h.ol, h.sl, h.ll, h.rs, h.os⟩
theorem Bd.setR {i : Nat} {x : StM} (h : Bd i x) (a : Nat) (o : OutM) (ho : o.name.size ≤ 100000) : Bd (i + 1) { x with acc := a, reads := putF x.reads o } :=
  ⟨Nat.le_trans (putF_len _ _) (Nat.succ_le_succ h.rl), Nat.le_succ_of_le h.ol, Nat.le_succ_of_le h.sl, Nat.le_trans h.ll (Nat.mul_le_mul_right _ (Nat.le_succ _)), fun q hq => by
    rcases putF_mem hq with rfl | hq
    · exact ho
    · exact h.rs q hq, h.os⟩
theorem Bd.setA {i : Nat} {x : StM} (h : Bd i x) (a : Nat) : Bd i { x with acc := a } := ⟨h.rl, h.ol, h.sl, h.ll, h.rs, h.os⟩
theorem Bd.setS {i : Nat} {x : StM} (h : Bd i x) (a : Nat) (sv : List EntM) (hs : sv.length ≤ i + 1) : Bd (i + 1) { x with acc := a, saves := sv } :=
  ⟨Nat.le_succ_of_le h.rl, Nat.le_succ_of_le h.ol, hs, Nat.le_trans h.ll (Nat.mul_le_mul_right _ (Nat.le_succ _)), h.rs, h.os⟩
theorem Bd.setO {i : Nat} {x : StM} (h : Bd i x) (o : OutM) (ho : o.name.size ≤ 100000) : Bd (i + 1) { x with outs := putF x.outs o } :=
  ⟨Nat.le_succ_of_le h.rl, Nat.le_trans (putF_len _ _) (Nat.succ_le_succ h.ol), Nat.le_succ_of_le h.sl, Nat.le_trans h.ll (Nat.mul_le_mul_right _ (Nat.le_succ _)), h.rs, fun q hq => by
    rcases putF_mem hq with rfl | hq
    · exact ho
    · exact h.os q hq⟩
theorem Bd.setL {i : Nat} {x : StM} (h : Bd i x) (l : List UInt8) (hl : l.length ≤ 100001) : Bd (i + 1) { x with log := x.log ++ l } :=
  ⟨Nat.le_succ_of_le h.rl, Nat.le_succ_of_le h.ol, Nat.le_succ_of_le h.sl, by have := h.ll; rw [List.length_append, Nat.succ_mul]; omega, h.rs, h.os⟩
theorem Bd.setT {i : Nat} {x : StM} (h : Bd i x) (l : List TstM) : Bd i { x with tests := l } := ⟨h.rl, h.ol, h.sl, h.ll, h.rs, h.os⟩
theorem Bd.setC {i : Nat} {x : StM} (h : Bd i x) (l : ByteArray) : Bd i { x with child := l } := ⟨h.rl, h.ol, h.sl, h.ll, h.rs, h.os⟩
theorem fileN_size (p : ByteArray) : (fileN p).size = 5 + p.size := by
  unfold fileN bs ByteArray.size
  simp
  omega
theorem bs_len (s : ByteArray) : (bs s).length = s.size := Array.length_toList
theorem Bd.take {i : Nat} {v : ViewM} {x : StM} {s : StepM} (hB : VB v) (h : Bd i x) : Bd (i + 1) (takeF v x s) := by
  have hu := h.up (Nat.le_succ i)
  by_cases h1 : s.op = 1
  · rw [takeF_one h1]
    cases hf : fileF v s.name with
    | none => exact hu
    | some f => exact h.setR _ _ (by have := (hB.fileN f (find_prop hf).1).1; show (fileN f.path).size ≤ _; rw [fileN_size]; omega)
  by_cases h2 : s.op = 2
  · rw [takeF_two h2]
    cases hf : artF v s.name with
    | none => exact hu
    | some f => exact h.setR _ _ (by have := (hB.artN f (find_prop hf).1).1; omega)
  by_cases h3 : s.op = 3
  · rw [takeF_three h3]
    cases secF v s.name with
    | none => exact hu
    | some f => exact hu.setA _
  by_cases h4 : s.op = 4
  · rw [takeF_four h4]
    refine h.setS _ _ ?_
    have := h.sl
    split
    · omega
    · rw [List.length_append]; simp; omega
  · rw [takeF_rest h1 h2 h3 h4]
    exact hu
theorem Bd.perform {i : Nat} {v : ViewM} {x : StM} {s : StepM} (hB : VB v) (hn : s.name.size ≤ 100000) (ht : s.text.size ≤ 100000) (h : Bd i x) : Bd (i + 1) (performF v x s).1 := by
  have hk := h.take (s := s) hB
  have hr : ∀ {k : Int}, s.op = k → k ≠ 1 → k ≠ 2 → k ≠ 3 → k ≠ 4 → takeF v x s = x := fun e a b c d => takeF_rest (by omega) (by omega) (by omega) (by omega)
  by_cases h5 : s.op = 5
  · rw [performF_5 h5, hr h5 (by decide) (by decide) (by decide) (by decide)]; exact h.setO _ hn
  by_cases h6 : s.op = 6
  · rw [performF_6 h6, hr h6 (by decide) (by decide) (by decide) (by decide)]; exact h.setL _ (by rw [List.length_append, bs_len]; simp; omega)
  by_cases h7 : s.op = 7
  · rw [performF_7 h7, hr h7 (by decide) (by decide) (by decide) (by decide)]
    refine h.setL _ ?_
    unfold echoL
    rw [List.length_append]
    cases hf : secF v s.name with
    | none => simp
    | some t => have := hB.secN t (find_prop hf).1; dsimp only; rw [bs_len]; simp; omega
  by_cases h8 : s.op = 8
  · rw [performF_8 h8, hr h8 (by decide) (by decide) (by decide) (by decide)]; exact (h.up (Nat.le_succ i)).setT _
  by_cases h9 : s.op = 9
  · rw [performF_9 h9]; exact hk
  by_cases h11 : s.op = 11
  · rw [performF_11 h11, hr h11 (by decide) (by decide) (by decide) (by decide)]; exact (h.up (Nat.le_succ i)).setC _
  · rw [performF_r h5 h6 h7 h8 h9 h11]; exact hk
theorem Bd.step {i : Nat} {D : ByteArray → Bool} {j : JobM} {v : ViewM} {x : StM} {s : StepM} (hB : VB v) (hn : s.name.size ≤ 100000) (ht : s.text.size ≤ 100000) (h : Bd i x) : Bd (i + 1) (stepF D j v x s).1 := by
  unfold stepF
  split
  · exact h.up (Nat.le_succ i)
  split
  · exact (h.up (Nat.le_succ i)).time _
  · exact (h.time _).perform hB hn ht
/-- the state in which an execution stands ahead of a step -/
structure AtStep (D : ByteArray → Bool) (j : JobM) (v : ViewM) (i : Nat) (x : StM) : Prop where
  run : runF D j v (st0 j) j.steps = runF D j v x (j.steps.drop i)
  bd : Bd i x
  ls : Lists D j v x
theorem AtStep.zero (D : ByteArray → Bool) (j : JobM) (v : ViewM) : AtStep D j v 0 (st0 j) := ⟨rfl, Bd.zero j, ⟨fun o h => absurd (show o ∈ ([] : List OutM) from h) List.not_mem_nil, List.nodup_nil, fun o h => absurd (show o ∈ ([] : List OutM) from h) List.not_mem_nil, List.nodup_nil, fun o h => absurd (show o ∈ ([] : List EntM) from h) List.not_mem_nil⟩⟩
theorem AtStep.next {D : ByteArray → Bool} {j : JobM} {v : ViewM} {i : Nat} {x : StM} (hB : VB v) (h : AtStep D j v i x) (hi : i < j.steps.length) (hs : j.steps[i].name.size ≤ 10000 ∧ j.steps[i].text.size ≤ 100000) :
    Bd (i + 1) (stepF D j v x j.steps[i]).1 ∧ Lists D j v (stepF D j v x j.steps[i]).1 ∧ ((stepF D j v x j.steps[i]).2 ≠ 0 → runF D j v (st0 j) j.steps = stepF D j v x j.steps[i]) ∧ ((stepF D j v x j.steps[i]).2 = 0 → AtStep D j v (i + 1) (stepF D j v x j.steps[i]).1) := by
  have hb := h.bd.step (D := D) (j := j) (s := j.steps[i]) hB (by omega) hs.2
  have hl := h.ls.step (s := j.steps[i])
  have hr := h.run
  rw [List.drop_eq_getElem_cons hi, runF] at hr
  refine ⟨hb, hl, fun h0 => by rw [if_pos h0] at hr; exact hr, fun h0 => ⟨by rw [if_neg (fun k => k h0)] at hr; exact hr, hb, hl⟩⟩
theorem AtStep.last {D : ByteArray → Bool} {j : JobM} {v : ViewM} {x : StM} (h : AtStep D j v j.steps.length x) : runF D j v (st0 j) j.steps = (x, 0) := by
  have hr := h.run
  rw [List.drop_length, runF] at hr
  exact hr
end Go.Proofs.YtghahghbahcpfaaGreatDoor
/- The walk over sandbox.Execute. -/
namespace Go.Proofs.YtghahghbahcpfaaGreatDoor
open Go.RowKit

abbrev tView : TypeId := 45
/-- a view's cells -/
abbrev viewA (c : Nat → Value) : Value := .agg #[c 39, c 40, c 41, c 42, c 43, c 44, c 45, c 46, c 47]
abbrev jobC (c : Nat → Value) : Array Value := #[c 0, c 1, c 2, c 3, c 4, c 5, c 6, c 7, c 8, c 9, c 10, c 11, c 12, c 13, c 14, c 15, c 16, c 17, c 18, c 19, c 20, c 21, c 22, c 23, c 24, c 25, c 26, c 27, c 28, c 29, c 30, c 31, c 32, c 33, c 34, c 35, c 36, c 37, c 38]
abbrev viewC (c : Nat → Value) : Array Value := #[c 39, c 40, c 41, c 42, c 43, c 44, c 45, c 46, c 47]
abbrev exeC (c : Nat → Value) (d : Nat) : Array Value := #[c 0, c 1, c 2, c 3, c 4, c 5, c 6, c 7, c 8, c 9, c 10, c 11, c 12, c 13, c 14, c 15, c 16, c 17, c 18, c 19, c 20, c 21, c 22, c 23, c 24, c 25, c 26, c 27, c 28, c 29, c 30, c 31, c 32, c 33, c 34, c 35, c 36, c 37, c 38, c 39, c 40, c 41, c 42, c 43, c 44, c 45, c 46, c 47, .int .u64 (d : Nat), .int .i64 0, .pointer none, .slice none 0 0, .slice none 0 0, .slice none 0 0, .slice none 0 0, .slice none 0 0, .string ⟨#[]⟩]
abbrev eff0 : Array Value := #[.int .i64 0, .int .i64 0, .slice none 0 0, .slice none 0 0, .slice none 0 0, .string ⟨#[]⟩, .string ⟨#[]⟩, .int .i64 0, .slice none 0 0]
theorem Tryz.built_exe (c : Nat → Value) (d : Nat) : Tryz.prog.built tX [(0, jobA c), (1, viewA c), (2, .int .u64 (d : Nat))] = some (exeC c d) := by kernel_rfl
theorem range_job {c : Nat → Value} {g : Nat} {fr : Nat × Nat} {W : World} (h : W.heap[g]? = some (.cells (jobC c) tJob fr)) : W.rangeAt g 0 (jobL c) := fun k v hv => by
  rw [Nat.zero_add]
  exact (cell_of_blk h k).trans ((show (jobC c)[k]? = (jobL c)[k]? from List.getElem?_toArray).trans hv)
abbrev viewL (c : Nat → Value) : List Value := [c 39, c 40, c 41, c 42, c 43, c 44, c 45, c 46, c 47]
theorem range_view {c : Nat → Value} {g : Nat} {fr : Nat × Nat} {W : World} (h : W.heap[g]? = some (.cells (viewC c) tView fr)) : W.rangeAt g 0 (viewL c) := fun k v hv => by
  rw [Nat.zero_add]
  exact (cell_of_blk h k).trans ((show (viewC c)[k]? = (viewL c)[k]? from List.getElem?_toArray).trans hv)
theorem xat_zero {xb d : Nat} {c : Nat → Value} {j : JobM} {w : World} (hb : w.heap[xb]? = some (.cells (exeC c d) tX (0, 0))) (hd : d = beginF j.steps) : XSt xb c (st0 j) w := by
  subst hd
  refine ⟨exeC c (beginF j.steps), .pointer none, .slice none 0 0, .slice none 0 0, .slice none 0 0, .slice none 0 0, .slice none 0 0, hb, rfl, ?_, rfl, ofN_lt _ _, rfl, (show i64R 0 from ⟨by decide, by decide⟩), rfl, .inl rfl, rfl, ⟨rfl, .inl ⟨rfl, rfl⟩⟩, rfl, ⟨ElemK.Row.nil, fun b e => by cases e⟩, rfl, ⟨ElemK.Row.nil, fun b e => by cases e⟩, rfl, ElemK.Own.nil, rfl, ElemK.Own.nil, rfl⟩
  intro k hk
  have : ∀ k, k < 48 → (exeC c (beginF j.steps))[k]? = some (c k) := by
    intro k hk
    exact match k, hk with
    | 0, _ => rfl | 1, _ => rfl | 2, _ => rfl | 3, _ => rfl | 4, _ => rfl | 5, _ => rfl | 6, _ => rfl | 7, _ => rfl | 8, _ => rfl | 9, _ => rfl
    | 10, _ => rfl | 11, _ => rfl | 12, _ => rfl | 13, _ => rfl | 14, _ => rfl | 15, _ => rfl | 16, _ => rfl | 17, _ => rfl | 18, _ => rfl | 19, _ => rfl
    | 20, _ => rfl | 21, _ => rfl | 22, _ => rfl | 23, _ => rfl | 24, _ => rfl | 25, _ => rfl | 26, _ => rfl | 27, _ => rfl | 28, _ => rfl | 29, _ => rfl
    | 30, _ => rfl | 31, _ => rfl | 32, _ => rfl | 33, _ => rfl | 34, _ => rfl | 35, _ => rfl | 36, _ => rfl | 37, _ => rfl | 38, _ => rfl | 39, _ => rfl
    | 40, _ => rfl | 41, _ => rfl | 42, _ => rfl | 43, _ => rfl | 44, _ => rfl | 45, _ => rfl | 46, _ => rfl | 47, _ => rfl
    | k + 48, h => absurd h (by omega)
  exact this k hk
theorem VAt.mono {a b : Nat} {c : Nat → Value} {v : ViewM} {w : World} (h : VAt a c v w) (hab : a ≤ b) : VAt b c v w :=
  ⟨h.files.mono fun _ k => Nat.lt_of_lt_of_le k hab, h.arts.mono fun _ k => Nat.lt_of_lt_of_le k hab, h.secs.mono fun _ k => Nat.lt_of_lt_of_le k hab, h.caches.mono fun _ k => Nat.lt_of_lt_of_le k hab, h.keys.mono fun _ k => Nat.lt_of_lt_of_le k hab, h.tests.mono fun _ k => Nat.lt_of_lt_of_le k hab, h.times.mono fun _ k => Nat.lt_of_lt_of_le k hab, h.ign.mono fun _ k => Nat.lt_of_lt_of_le k hab, h.att⟩
theorem JAt.mono {a b : Nat} {c : Nat → Value} {j : JobM} {w : World} (h : JAt a c j w) (hab : a ≤ b) : JAt b c j w :=
  ⟨h.steps.mono fun _ k => Nat.lt_of_lt_of_le k hab, h.timeout, h.inputs.mono fun _ k => Nat.lt_of_lt_of_le k hab, h.uses.mono fun _ k => Nat.lt_of_lt_of_le k hab, h.outputs.mono fun _ k => Nat.lt_of_lt_of_le k hab, h.caches, h.secrets.mono fun _ k => Nat.lt_of_lt_of_le k hab, h.child⟩
def ExPost (j : JobM) (v : ViewM) (w : World) (e : Ending) (w' : World) : Prop := ∃ u, e = .returned u ∧ EffAt (fun b => w.heap.size ≤ b) w' (execF (declF j.inputs) j v) u ∧ Below w.heap.size w w'
def ExRel (xb : Nat) (c : Nat → Value) (j : JobM) (v : ViewM) (w1 : World) (f : Nat) (t18 : Value) (wr : World) : Prop :=
  ∃ i : Nat, t18 = .int .i64 (i : Nat) ∧ i ≤ j.steps.length ∧ f = j.steps.length - i ∧ ∃ x, XSt xb c x wr ∧ AtStep (declF j.inputs) j v i x ∧ Below xb w1 wr
theorem fin_of {D : ByteArray → Bool} {j : JobM} {v : ViewM} {i : Nat} {x : StM} (hb : Bd i x) (hl : Lists D j v x) (hi : i ≤ 1000) : Fin x :=
  ⟨by have := hb.rl; omega, hl.insN, fun o ho => by have := hb.rs o ho; omega, by have := hb.ol; omega, hl.outsN, fun o ho => by have := hb.os o ho; omega, by have := hb.ll; omega⟩
set_option maxRecDepth 100000 in
set_option maxHeartbeats 6400000 in
theorem exec_any (c : Nat → Value) (j : JobM) (v : ViewM) (hns : j.steps.length ≤ 900) (hJ : JB j) (hB : VB v) (m : Int) (w : World) (hm : w.cell? ⟨0, 0, none⟩ = some (.int .i64 m)) (hv : VAt w.heap.size c v w) (hj : JAt w.heap.size c j w) :
    Calls Tryz.prog 13 #[jobA c, viewA c] w (ExPost j v w) := by
  have hw0 : 0 < w.heap.size := by
    rcases Nat.eq_zero_or_pos w.heap.size with h | h
    · rw [World.cell?] at hm
      have : w.heap[0]? = none := Array.getElem?_eq_none (by omega)
      simp [this] at hm
    · exact h
  obtain ⟨w1, hw1⟩ : ∃ w1, w.alloc (.cells (jobC c) tJob (0, 0)) = w1 := ⟨_, rfl⟩
  obtain ⟨w2, hw2⟩ : ∃ w2, w1.alloc (.cells (viewC c) tView (0, 0)) = w2 := ⟨_, rfl⟩
  obtain ⟨w3, hw3⟩ : ∃ w3, w2.alloc (.cells eff0 tEff (0, 0)) = w3 := ⟨_, rfl⟩
  have hs1 : w1.heap.size = w.heap.size + 1 := by rw [← hw1]; simp
  have hs2 : w2.heap.size = w.heap.size + 1 + 1 := by rw [← hw2]; simp [hs1]
  have hk1 : w3.heap[w.heap.size]? = some (.cells (jobC c) tJob (0, 0)) := by rw [← hw3]; exact (hp_old (by omega)).trans (by rw [← hw2]; exact (hp_old (by omega)).trans (by rw [← hw1]; exact hp_new rfl))
  have hk2 : w3.heap[w.heap.size + 1]? = some (.cells (viewC c) tView (0, 0)) := by rw [← hw3]; exact (hp_old (by omega)).trans (by rw [← hw2]; exact hp_new (by omega))
  have hk3 : w3.heap[w.heap.size + 1 + 1]? = some (.cells eff0 tEff (0, 0)) := by rw [← hw3]; exact hp_new (by omega)
  have hb3 : Below w.heap.size w w3 := by rw [← hw3, ← hw2, ← hw1]; exact (((Below.refl _ w).alloc (Nat.le_refl _) _).alloc (by simp) _).alloc (by simp; omega) _
  have HK1 := Lib.hid hk1
  have HK2 := Lib.hid hk2
  have HK3 := Lib.hid hk3
  have HB3 := Lib.hid hb3
  have HW1 := Lib.hid hw1
  have HW2 := Lib.hid hw2
  have HW3 := Lib.hid hw3
  have z3 : w.heap.size + 1 + 1 < w3.heap.size := (Array.getElem?_eq_some_iff.1 hk3).1
  have HV := Lib.hid hv
  have HJA := Lib.hid hj
  have HJB := Lib.hid hJ
  have HBV := Lib.hid hB
  have HM := Lib.hid hm
  obtain ⟨so, sc, h13⟩ := hj.steps.form
  have H13 := Lib.hid h13
  have BG := Lib.hid (fun W (hb : Below w3.heap.size w3 W) => begin_any c j.steps (fun b => b < w.heap.size) (by omega) (fun s hs => by have := hJ.stepN s hs; omega) W ((hj.below (hb3.trans (hb.mono (by omega)))).steps))
  have HS1 : Hid (∀ W : World, Below w3.heap.size w3 W → W.rangeAt w.heap.size 0 (jobL c) ∧ W.rangeAt (w.heap.size + 1) 0 (viewL c)) := fun W hb => ⟨range_job ((hb.block _ (by omega)).trans HK1.out), range_view ((hb.block _ (by omega)).trans HK2.out)⟩
  have HDR : Hid (Below w3.heap.size w3 w3.drew) := (Below.refl _ _).drew
  clear hv hj hJ hB hm hk1 hk2 hk3 hb3 hw1 hw2 hw3 hs1 hs2 h13
  go_enter Tryz.func13, Tryz.ntmps13
  go_upto_region 1 with fail
  rw [HW1.out, HW2.out, HW3.out]
  clear HW1 HW2 HW3
  refine wp_region_Z (S := fun W : World => W.rangeAt w.heap.size 0 (jobL c) ∧ W.rangeAt (w.heap.size + 1) 0 (viewL c)) 6 (by kernel_rfl) (HS1.out _ HDR.out) (fun hHeld => ?_)
  refine wpAnyZ_takeD (i := 0) (v := .agg (jobL c).toArray) rfl (by kernel_rfl) (by kernel_rfl) (by kernel_rfl) (by kernel_rfl) (fun _ _ _ h => h) (yieldsIf_load_mid (by rfl) tJob (.tmp 2) rfl w.heap.size 0 (by rfl) (jobL c) _ (fun W h => h.1) Tryz.underlying38 rfl (by kernel_rfl)) (by assumption) ?_
  try simp only [Act.put, zA, zB, zC]
  refine wpAnyZ_takeD (i := 1) (v := .agg (viewL c).toArray) rfl (by kernel_rfl) (by kernel_rfl) (by kernel_rfl) (by kernel_rfl) (fun _ _ _ h => h) (yieldsIf_load_mid (by rfl) tView (.tmp 3) rfl (w.heap.size + 1) 0 (by rfl) (viewL c) _ (fun W h => h.2) Tryz.underlying45 rfl (by kernel_rfl)) (by assumption) ?_
  try simp only [Act.put, zA, zB, zC]
  refine wpAnyZ_takeD (i := 2) (v := .agg (jobL c).toArray) rfl (by kernel_rfl) (by kernel_rfl) (by kernel_rfl) (by kernel_rfl) (fun _ _ _ h => h) (yieldsIf_load_mid (by rfl) tJob (.tmp 2) rfl w.heap.size 0 (by rfl) (jobL c) _ (fun W h => h.1) Tryz.underlying38 rfl (by kernel_rfl)) (by assumption) ?_
  try simp only [Act.put, zA, zB, zC]
  refine wpAnyZ_oneL (i := 3) (by kernel_rfl) rfl (fun K hK => ?_)
  go_simp
  go_at_call 33
  refine (BG.out _ HDR.out).mono ?_
  rintro e w4 ⟨rfl, hb4⟩
  have HB4 := Lib.hid (HDR.out.trans (hb4.mono HDR.out.size))
  clear hb4
  obtain ⟨bd, hbd⟩ : ∃ d, beginF j.steps = d := ⟨_, rfl⟩
  have HBD := Lib.hid hbd
  rw [hbd]
  clear hbd
  refine hK.out _ _ (fun _ => HS1.out _ HB4.out) (fun hHeld => ?_)
  replace hHeld := hHeld (by decide)
  clear hK K
  try simp only [Act.put, zA, zB, zC]
  refine wpAnyZ_oneL (i := 4) (by kernel_rfl) rfl (fun K hK => ?_)
  rw [if_pos (by rfl)]
  refine wp_build3M tX (.tmp 9) (.tmp 10) (.tmp 12) rfl _ _ _ rfl rfl rfl (exeC c bd) (Tryz.built_exe _ _) ?_
  refine hK.out _ _ (fun _ => HS1.out _ HB4.out) (fun hHeld => ?_)
  replace hHeld := hHeld (by decide)
  clear hK K
  try simp only [Act.put, zA, zB, zC]
  refine wpAnyZ_oneL (i := 5) (by kernel_rfl) rfl (fun K hK => ?_)
  go_simp
  obtain ⟨w5, hw5⟩ : ∃ W, w4.alloc (.cells (exeC c bd) tX) = W := ⟨_, rfl⟩
  have hk5 : w5.heap[w4.heap.size]? = some (.cells (exeC c bd) tX (0, 0)) := by rw [← hw5]; exact hp_new rfl
  have HB5 : Hid (Below w3.heap.size w3 w5) := by unfold Hid; rw [← hw5]; exact HB4.out.alloc HB4.out.size _
  have HX5 := Lib.hid (xat_zero hk5 HBD.out.symm)
  have LX := HB4.out.size
  rw [hw5]
  obtain ⟨xb, hxb⟩ : ∃ x, w4.heap.size = x := ⟨_, rfl⟩
  rw [hxb] at HX5 LX
  rw [hxb]
  clear hw5 hk5 hxb HBD HB4
  refine hK.out _ _ (fun _ => HS1.out _ HB5.out) (fun hHeld => ?_)
  replace hHeld := hHeld (by decide)
  clear hK K
  try simp only [Act.put, zA, zB, zC]
  refine wpAnyZ_oneL (i := 6) (by kernel_rfl) rfl (fun K hK => ?_)
  go_simp
  refine hK.out _ _ (fun h => absurd h (by decide)) (fun _ => ?_)
  clear hK K
  try simp only [Act.put, zA, zB, zC]
  refine wpAnyZ_done (by kernel_rfl) ?_ _
  clear hHeld
  have c13 : w5.cell? ⟨w.heap.size, 13, none⟩ = some (.slice so j.steps.length sc) := by rw [← H13.out]; exact cell_of_blk ((HB5.out.block _ (by omega)).trans HK1.out) 13
  have HB0 : Hid (Below w.heap.size w w5) := HB3.out.trans (HB5.out.mono (by omega))
  have hxw : w.heap.size ≤ xb := by omega
  clear HS1 HDR BG
  go_wp2_with fail
  go_loopg [18] j.steps.length (ExRel xb c j v w5)
  case atStart => exact ⟨0, rfl, Nat.zero_le _, rfl, _, HX5.out, AtStep.zero _ _ _, Below.refl _ _⟩
  case round =>
    obtain ⟨i, rfl, hi, rfl, x, hx, hat, hbel⟩ := hrel
    have HX := Lib.hid hx
    have HAT := Lib.hid hat
    have HBR := Lib.hid hbel
    have HB0r : Hid (Below w.heap.size w wr) := HB0.out.trans (hbel.mono hxw)
    have hxr := hx.lt
    clear hx hat hbel
    by_cases hlt : i < j.steps.length
    · have hrow := (HJA.out.below HB0r.out).steps
      rw [H13.out] at hrow
      obtain ⟨bl, off, cs, rfl, _, hbl, hc, hR⟩ := hrow.at hlt
      have hcs : cs = [.int .i64 j.steps[i].op, .string j.steps[i].name, .string j.steps[i].text, .int .i64 j.steps[i].n] := hR
      subst hcs
      have e0 : wr.cell? ⟨bl, off + i * 4 + 0, none⟩ = _ := hc 0 _ rfl
      have e1 : wr.cell? ⟨bl, off + i * 4 + 1, none⟩ = _ := hc 1 _ rfl
      have e2 : wr.cell? ⟨bl, off + i * 4 + 2, none⟩ = _ := hc 2 _ rfl
      have e3 : wr.cell? ⟨bl, off + i * 4 + 3, none⟩ = _ := hc 3 _ rfl
      rw [Nat.add_zero] at e0
      have hii : (i : Int) < (j.steps.length : Int) := by omega
      have hsz := HJB.out.stepN j.steps[i] (List.getElem_mem hlt)
      have HNX := Lib.hid (HAT.out.next HBV.out hlt ⟨hsz.1, hsz.2.1⟩)
      have HSZ := Lib.hid hsz
      have bd := HAT.out.bd
      have HBDS := Lib.hid bd
      generalize j.steps[i] = s at *
      obtain ⟨op, nm, tx, n⟩ := s
      clear hc hR hsz hrow bd
      as_aux_lemma =>
      go_wp2_with (refine wpList_store_row rfl tStep _ _ rfl wr.heap.size rfl tStep _ (hp_new rfl) (.agg #[.int .i64 op, .string nm, .string tx, .int .i64 n]) rfl (by kernel_rfl) rfl rfl ?_)
      intro w6 hw6
      have hk6 : w6.heap[wr.heap.size]? = some (.cells #[.int .i64 op, .string nm, .string tx, .int .i64 n] tStep (0, 0)) := hw6.at_
      have HB6 : Hid (Below wr.heap.size wr w6) := ((Below.refl _ wr).alloc (Nat.le_refl _) _).trans (hw6.below (Nat.le_refl _))
      have HX6 := Lib.hid (HX.out.grow HB6.out)
      have HB06 : Hid (Below w.heap.size w w6) := HB0r.out.trans (HB6.out.mono HB0r.out.size)
      have s0 : w6.cell? ⟨wr.heap.size, 0, none⟩ = some (.int .i64 op) := cell_of_blk hk6 0
      have s1 : w6.cell? ⟨wr.heap.size, 1, none⟩ = some (.string nm) := cell_of_blk hk6 1
      have s2 : w6.cell? ⟨wr.heap.size, 2, none⟩ = some (.string tx) := cell_of_blk hk6 2
      have s3 : w6.cell? ⟨wr.heap.size, 3, none⟩ = some (.int .i64 n) := cell_of_blk hk6 3
      have ST := Lib.hid (step_any xb c x v j ⟨op, nm, tx, n⟩ HSZ.out.1 HSZ.out.2.1 (by have := HBDS.out.ll; omega) (by have := HBDS.out.rl; omega) (by have := HBDS.out.ol; omega) (by have := HBDS.out.sl; omega) HJB.out HBV.out m w6 ((HB06.out.cell (p := ⟨0, 0, none⟩) hw0).trans HM.out) (by omega) HX6.out ((HV.out.below HB06.out).mono hxw) ((HJA.out.below HB06.out).mono hxw))
      unfold StepPost at ST
      have HBX6 : Hid (Below xb w5 w6) := HBR.out.trans (HB6.out.mono (Nat.le_of_lt hxr))
      generalize stepF (declF j.inputs) j v x ⟨op, nm, tx, n⟩ = r at *
      obtain ⟨y, k⟩ := r
      dsimp only at ST HNX
      clear hk6 hw6 HX6 HX e0 e1 e2 e3 HB6 HSZ HBDS HBR
      go_wp2_with fail
      refine ST.out.mono ?_
      rintro e w7 ⟨rfl, hx7, hb7⟩
      have HX7 := Lib.hid hx7
      have HB7 : Hid (Below xb w5 w7) := HBX6.out.trans hb7
      clear hx7 hb7 ST s0 s1 s2 s3
      by_cases h0 : k = 0
      · have t0 : ((k : Int) != 0) = false := by simp [h0]
        have HN := Lib.hid (HNX.out.2.2.2 h0)
        clear h0 HNX
        go_wp2_with fail
        go_roundg (j.steps.length - (i + 1))
        case measure => omega
        case rel => exact ⟨i + 1, by go_num, by omega, rfl, _, HX7.out, HN.out, HB7.out⟩
      · have t0 : ((k : Int) != 0) = true := by simp [h0]
        have HRUN := Lib.hid (HNX.out.2.2.1 h0)
        have HEF : Hid (execF (declF j.inputs) j v = effectF y k) := by unfold Hid execF; rw [HRUN.out]
        have EF := Lib.hid (effect_any xb c y k (fin_of HNX.out.1 HNX.out.2.1 (by omega)) w7 HX7.out)
        rw [← HEF.out] at EF
        clear h0 HNX HRUN HEF
        go_wp2_with fail
        refine EF.out.mono ?_
        rintro e w9 ⟨u, rfl, heff, hb9⟩
        have HB9 : Hid (Below xb w5 w9) := HB7.out.trans hb9
        clear hb9 EF
        obtain ⟨iv, ov, tv, sv, lg, rfl, f1, f2, f3, f4, f5⟩ := heff
        obtain ⟨io, ic, rfl⟩ := f2.form
        obtain ⟨oo, oc, rfl⟩ := f3.form
        obtain ⟨to', tc, rfl⟩ := f4.form
        obtain ⟨so', sc', rfl⟩ := f5.form
        have hrb : w9.heap[w.heap.size + 1 + 1]? = some (.cells eff0 tEff (0, 0)) := (HB9.out.block _ (Nat.lt_of_lt_of_le z3 LX)).trans ((HB5.out.block _ z3).trans HK3.out)
        have F1 := Lib.hid f1
        have F2 := Lib.hid f2
        have F3 := Lib.hid f3
        have F4 := Lib.hid f4
        have F5 := Lib.hid f5
        have HRB := Lib.hid hrb
        clear f1 f2 f3 f4 f5
        obtain ⟨E, hE⟩ : ∃ E, execF (declF j.inputs) j v = E := ⟨_, rfl⟩
        rw [hE] at F1 F2 F3 F4 F5 ⊢
        have HE := Lib.hid hE
        clear hE
        obtain ⟨E1, E2, EI, EO, ET, EC, EL, EM, ES⟩ := E
        dsimp only at F1 F2 F3 F4 F5 ⊢
        go_wp2_with (refine wpList_store_row rfl tEff _ _ rfl (w.heap.size + 1 + 1) rfl tEff _ HRB.out (.agg #[.int .i64 E1, .int .i64 E2, .slice io EI.length ic, .slice oo EO.length oc, .slice to' ET.length tc, .string EC, .string lg, .int .i64 EM, .slice so' ES.length sc']) rfl (by kernel_rfl) rfl rfl ?_)
        intro wz hwz
        have HWZ := Lib.hid hwz
        have HZ : Hid (wz.heap[w.heap.size + 1 + 1]? = some (.cells #[.int .i64 E1, .int .i64 E2, .slice io EI.length ic, .slice oo EO.length oc, .slice to' ET.length tc, .string EC, .string lg, .int .i64 EM, .slice so' ES.length sc'] tEff (0, 0))) := hwz.at_
        clear hwz hrb
        go_wp2_with fail
        exact bodyPost_ret (results_row1 rfl _ _ (w.heap.size + 1 + 1) tEff _ (0, 0) _ rfl HZ.out Tryz.underlying54 rfl (by kernel_rfl)) rfl (by
          unfold ExPost
          rw [HE.out]
          exact ⟨_, rfl, ⟨_, _, _, _, _, rfl, F1.out, ElemK.Row.mono (B' := fun b => w.heap.size ≤ b) (F2.out.keep (Nat.le_of_eq HWZ.out.size.symm) fun b hb _ => HWZ.out.block b (by omega)) (fun b hb => by omega), ElemK.Row.mono (B' := fun b => w.heap.size ≤ b) (F3.out.keep (Nat.le_of_eq HWZ.out.size.symm) fun b hb _ => HWZ.out.block b (by omega)) (fun b hb => by omega),
            ElemK.Row.mono (B' := fun b => w.heap.size ≤ b) (F4.out.keep (Nat.le_of_eq HWZ.out.size.symm) fun b hb _ => HWZ.out.block b (by omega)) (fun b hb => by omega), ElemK.Row.mono (B' := fun b => w.heap.size ≤ b) (F5.out.keep (Nat.le_of_eq HWZ.out.size.symm) fun b hb _ => HWZ.out.block b (by omega)) (fun b hb => by omega)⟩,
            HB3.out.trans ((HB5.out.mono (by omega)).trans ((HB9.out.mono (by omega)).trans (HWZ.out.below (by omega))))⟩)
    · have hii : ¬ (i : Int) < (j.steps.length : Int) := by omega
      have he : i = j.steps.length := by omega
      have HLS : Hid (runF (declF j.inputs) j v (st0 j) j.steps = (x, 0)) := AtStep.last (he ▸ HAT.out)
      have HEF : Hid (execF (declF j.inputs) j v = effectF x 0) := by unfold Hid execF; rw [HLS.out]
      have EF := Lib.hid (effect_any xb c x 0 (fin_of HAT.out.bd HAT.out.ls (by omega)) wr HX.out)
      rw [← HEF.out] at EF
      clear he HLS HEF HAT
      as_aux_lemma =>
      go_wp2_with fail
      refine EF.out.mono ?_
      rintro e w9 ⟨u, rfl, heff, hb9⟩
      have HB9 : Hid (Below xb w5 w9) := HBR.out.trans hb9
      clear hb9 EF
      obtain ⟨iv, ov, tv, sv, lg, rfl, f1, f2, f3, f4, f5⟩ := heff
      obtain ⟨io, ic, rfl⟩ := f2.form
      obtain ⟨oo, oc, rfl⟩ := f3.form
      obtain ⟨to', tc, rfl⟩ := f4.form
      obtain ⟨so', sc', rfl⟩ := f5.form
      have hrb : w9.heap[w.heap.size + 1 + 1]? = some (.cells eff0 tEff (0, 0)) := (HB9.out.block _ (Nat.lt_of_lt_of_le z3 LX)).trans ((HB5.out.block _ z3).trans HK3.out)
      have F1 := Lib.hid f1
      have F2 := Lib.hid f2
      have F3 := Lib.hid f3
      have F4 := Lib.hid f4
      have F5 := Lib.hid f5
      have HRB := Lib.hid hrb
      clear f1 f2 f3 f4 f5
      obtain ⟨E, hE⟩ : ∃ E, execF (declF j.inputs) j v = E := ⟨_, rfl⟩
      rw [hE] at F1 F2 F3 F4 F5 ⊢
      have HE := Lib.hid hE
      clear hE
      obtain ⟨E1, E2, EI, EO, ET, EC, EL, EM, ES⟩ := E
      dsimp only at F1 F2 F3 F4 F5 ⊢
      go_wp2_with (refine wpList_store_row rfl tEff _ _ rfl (w.heap.size + 1 + 1) rfl tEff _ HRB.out (.agg #[.int .i64 E1, .int .i64 E2, .slice io EI.length ic, .slice oo EO.length oc, .slice to' ET.length tc, .string EC, .string lg, .int .i64 EM, .slice so' ES.length sc']) rfl (by kernel_rfl) rfl rfl ?_)
      intro wz hwz
      have HWZ := Lib.hid hwz
      have HZ : Hid (wz.heap[w.heap.size + 1 + 1]? = some (.cells #[.int .i64 E1, .int .i64 E2, .slice io EI.length ic, .slice oo EO.length oc, .slice to' ET.length tc, .string EC, .string lg, .int .i64 EM, .slice so' ES.length sc'] tEff (0, 0))) := hwz.at_
      clear hwz hrb
      go_wp2_with fail
      exact bodyPost_ret (results_row1 rfl _ _ (w.heap.size + 1 + 1) tEff _ (0, 0) _ rfl HZ.out Tryz.underlying54 rfl (by kernel_rfl)) rfl (by
        unfold ExPost
        rw [HE.out]
        exact ⟨_, rfl, ⟨_, _, _, _, _, rfl, F1.out, ElemK.Row.mono (B' := fun b => w.heap.size ≤ b) (F2.out.keep (Nat.le_of_eq HWZ.out.size.symm) fun b hb _ => HWZ.out.block b (by omega)) (fun b hb => by omega), ElemK.Row.mono (B' := fun b => w.heap.size ≤ b) (F3.out.keep (Nat.le_of_eq HWZ.out.size.symm) fun b hb _ => HWZ.out.block b (by omega)) (fun b hb => by omega),
          ElemK.Row.mono (B' := fun b => w.heap.size ≤ b) (F4.out.keep (Nat.le_of_eq HWZ.out.size.symm) fun b hb _ => HWZ.out.block b (by omega)) (fun b hb => by omega), ElemK.Row.mono (B' := fun b => w.heap.size ≤ b) (F5.out.keep (Nat.le_of_eq HWZ.out.size.symm) fun b hb _ => HWZ.out.block b (by omega)) (fun b hb => by omega)⟩,
          HB3.out.trans ((HB5.out.mono (by omega)).trans ((HB9.out.mono (by omega)).trans (HWZ.out.below (by omega))))⟩)
end Go.Proofs.YtghahghbahcpfaaGreatDoor
