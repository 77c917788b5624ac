/- The chapter's example, in plain words. -/
import Derived.Test.YtghahghbahcpfaaGreatDoorVp1
import Derived.Test.YtghahghbahcpfaaGreatDoorVs1
import Derived.Test.YtghahghbahcpfaaGreatDoorVs11
namespace Go.Proofs.YtghahghbahcpfaaGreatDoor

abbrev bA : ByteArray := ⟨#[97]⟩
abbrev bB : ByteArray := ⟨#[98]⟩
abbrev bO : ByteArray := ⟨#[111]⟩
abbrev bHi : ByteArray := ⟨#[104, 105]⟩
abbrev bE : ByteArray := ⟨#[]⟩
abbrev lvJ : JobM := ⟨[⟨1, bA, bE, 0⟩, ⟨5, bO, bE, 0⟩, ⟨6, bE, bHi, 0⟩, ⟨10, bE, bE, 3⟩], 10, [bA], [], [bO], 0, [], false⟩
abbrev lvV : ViewM := ⟨[⟨bA, 5⟩, ⟨bB, 6⟩], [], [], [], [], [], [], [], 0⟩
theorem lv_a : declF [bA] bA = true := by kernel_rfl
theorem lv_b : declF [bA] bB = false := by kernel_rfl
theorem lv_status : (execF (declF [bA]) lvJ lvV).status = 1 := by kernel_rfl
theorem lv_outs : (execF (declF [bA]) lvJ lvV).outputs.map (·.name.data.toList) = [[111]] := by kernel_rfl
theorem lv_ins : (execF (declF [bA]) lvJ lvV).inputs.map (fun o => (o.name.data.toList, o.dig, o.size)) = [([102, 105, 108, 101, 58, 97], 5, 0)] := by kernel_rfl
theorem lv_log : (execF (declF [bA]) lvJ lvV).log = [104, 105, 10] := by kernel_rfl
theorem lv_time : (execF (declF [bA]) lvJ lvV).time = 3 := by kernel_rfl
theorem lv_files : (restrictF (declF [bA]) lvJ lvV).files.map (·.path.data.toList) = [[97]] := by kernel_rfl
theorem lv_size : sizeF 65536 = 1 := by decide
theorem lv_memo : memoF ⟨#[107]⟩ ≠ memoF ⟨#[108]⟩ := by decide +kernel
theorem ba_of {b : ByteArray} {l : List UInt8} (h : b.data.toList = l) : b = ⟨l.toArray⟩ := by
  subst h
  rfl
theorem lv_out : ∃ d z, (execF (declF [bA]) lvJ lvV).outputs = [⟨bO, d, z⟩] := by
  have h := lv_outs
  cases hl : (execF (declF [bA]) lvJ lvV).outputs with
  | nil => rw [hl] at h; cases h
  | cons o l =>
    rw [hl] at h
    cases l with
    | cons p l => simp at h
    | nil =>
      obtain ⟨n, d, z⟩ := o
      have h : [n.data.toList] = [[111]] := h
      injection h with h
      exact ⟨d, z, by rw [ba_of h]⟩
theorem lv_in : (execF (declF [bA]) lvJ lvV).inputs = [⟨⟨#[102, 105, 108, 101, 58, 97]⟩, 5, 0⟩] := by
  have h := lv_ins
  cases hl : (execF (declF [bA]) lvJ lvV).inputs with
  | nil => rw [hl] at h; cases h
  | cons o l =>
    rw [hl] at h
    cases l with
    | cons p l => simp at h
    | nil =>
      obtain ⟨n, d, z⟩ := o
      have h : [(n.data.toList, d, z)] = [([102, 105, 108, 101, 58, 97], 5, 0)] := h
      injection h with h
      injection h with h1 h2
      injection h2 with h2 h3
      rw [ba_of h1, h2, h3]
theorem lv_file : (restrictF (declF [bA]) lvJ lvV).files.length = 1 := by
  have h := congrArg List.length lv_files
  simpa using h
end Go.Proofs.YtghahghbahcpfaaGreatDoor
/- The walk over the law's lives. -/
namespace Go.Proofs.YtghahghbahcpfaaGreatDoor
open Go.RowKit Go.Deep

abbrev LawPost (w : World) (e : Ending) (w' : World) : Prop := e = .returned (.bool true) ∧ Below w.heap.size w w'
/-- the cells of the example's job and view -/
def lvC (a b s f : Value) : Nat → Value
  | 0 => .string bE | 1 => .slice none 0 0 | 2 => .int .i64 0 | 3 => .string bE | 4 => .int .i64 0 | 5 => .bool false | 6 => .int .i64 0 | 7 => .string bE | 8 => .slice none 0 0 | 9 => .slice none 0 0
  | 10 => .slice none 0 0 | 11 => .slice none 0 0 | 12 => .slice none 0 0 | 13 => s | 14 => .slice none 0 0 | 15 => .string bE | 16 => .int .i64 0 | 17 => .int .i64 0 | 18 => .int .i64 0 | 19 => .int .i64 10
  | 20 => .int .i64 0 | 21 => .slice none 0 0 | 22 => .int .i64 0 | 23 => .int .i64 0 | 24 => a | 25 => .slice none 0 0 | 26 => b | 27 => .slice none 0 0 | 28 => .slice none 0 0 | 29 => .string bE
  | 30 => .bool false | 31 => .int .i64 0 | 32 => .slice none 0 0 | 33 => .int .i64 0 | 34 => .slice none 0 0 | 35 => .int .i64 0 | 36 => .int .i64 0 | 37 => .bool false | 38 => .bool false
  | 39 => f | 40 => .slice none 0 0 | 41 => .slice none 0 0 | 42 => .slice none 0 0 | 43 => .slice none 0 0 | 44 => .slice none 0 0 | 45 => .slice none 0 0 | 46 => .slice none 0 0 | 47 => .int .i64 0
  | _ => undef
theorem Tryz.built_jobL (x y z : Nat) : Tryz.prog.built tJob [(12, .slice (some ⟨x, 0, none⟩) 1 1), (14, .slice (some ⟨y, 0, none⟩) 1 1), (10, .int .i64 10), (4, .slice (some ⟨z, 0, none⟩) 4 4)] = some (jobC (lvC (.slice (some ⟨x, 0, none⟩) 1 1) (.slice (some ⟨y, 0, none⟩) 1 1) (.slice (some ⟨z, 0, none⟩) 4 4) undef)) := by kernel_rfl
theorem Tryz.built_viewL (x : Nat) : Tryz.prog.built tView [(0, .slice (some ⟨x, 0, none⟩) 2 2)] = some (viewC (lvC undef undef undef (.slice (some ⟨x, 0, none⟩) 2 2))) := by kernel_rfl
theorem Tryz.built_st1 (k : Int) (b : ByteArray) : Tryz.prog.built tStep [(0, .int .i64 k), (1, .string b)] = some #[.int .i64 k, .string b, .string bE, .int .i64 0] := by kernel_rfl
theorem Tryz.built_st2 (k : Int) (b : ByteArray) : Tryz.prog.built tStep [(0, .int .i64 k), (2, .string b)] = some #[.int .i64 k, .string bE, .string b, .int .i64 0] := by kernel_rfl
theorem Tryz.built_st3 (k n : Int) : Tryz.prog.built tStep [(0, .int .i64 k), (3, .int .i64 n)] = some #[.int .i64 k, .string bE, .string bE, .int .i64 n] := by kernel_rfl
theorem Tryz.built_fil (b : ByteArray) (d : Int) : Tryz.prog.built tFile [(0, .string b), (1, .int .u64 d)] = some #[.string b, .int .u64 d] := by kernel_rfl
theorem Tryz.infoStep : (Tryz.prog.info? tStep).map (fun i => (i.zero, i.size, i.bytes)) = some (some (.agg #[.int .i64 0, .string ⟨#[]⟩, .string ⟨#[]⟩, .int .i64 0]), 4, 48) := by kernel_rfl
theorem Tryz.infoStep' : ∃ i, Tryz.prog.info? tStep = some i ∧ i.zero = some (.agg #[.int .i64 0, .string ⟨#[]⟩, .string ⟨#[]⟩, .int .i64 0]) ∧ i.size = 4 ∧ i.bytes = 48 := info_parts Tryz.infoStep
section
variable {P : Program} {ops : Array Oper} {rest : List Oper} {o : Oper} {a : Act} {w : World} {Q : Exit → Act → World → Prop}
theorem wpList_build1I (hg : o.guard = none) (t : TypeId) {i : Nat} (x : Operand) (ho : o.op = .build t #[(i, x)]) (vx : Value) (hx : a.eval x = vx) (cells : Array Value) (hf : P.built t [(i, vx)] = some cells)
    (h : wpList P ops Q rest (a.put o.dst (.agg cells)) w) : wpList P ops Q (o :: rest) a w := by
  refine wpList_buildTo hg t #[(i, x)] ho o.dst rfl cells ?_ h
  have e : (#[(i, x)].map fun (i, x) => (i, a.eval x)).toList = [(i, a.eval x)] := by simp
  rw [e, hx]
  exact hf
theorem wpList_build2I (hg : o.guard = none) (t : TypeId) {i j : Nat} (x y : Operand) (ho : o.op = .build t #[(i, x), (j, y)]) (vx vy : Value) (hx : a.eval x = vx) (hy : a.eval y = vy) (cells : Array Value) (hf : P.built t [(i, vx), (j, vy)] = some cells)
    (h : wpList P ops Q rest (a.put o.dst (.agg cells)) w) : wpList P ops Q (o :: rest) a w := by
  refine wpList_buildTo hg t #[(i, x), (j, y)] ho o.dst rfl cells ?_ h
  have e : (#[(i, x), (j, y)].map fun (i, x) => (i, a.eval x)).toList = [(i, a.eval x), (j, a.eval y)] := by simp
  rw [e, hx, hy]
  exact hf
theorem wpList_build4I (hg : o.guard = none) (t : TypeId) {i j k l : Nat} (x y z u : Operand) (ho : o.op = .build t #[(i, x), (j, y), (k, z), (l, u)]) (vx vy vz vu : Value) (hx : a.eval x = vx) (hy : a.eval y = vy) (hz : a.eval z = vz) (hu : a.eval u = vu) (cells : Array Value) (hf : P.built t [(i, vx), (j, vy), (k, vz), (l, vu)] = some cells)
    (h : wpList P ops Q rest (a.put o.dst (.agg cells)) w) : wpList P ops Q (o :: rest) a w := by
  refine wpList_buildTo hg t #[(i, x), (j, y), (k, z), (l, u)] ho o.dst rfl cells ?_ h
  have e : (#[(i, x), (j, y), (k, z), (l, u)].map fun (i, x) => (i, a.eval x)).toList = [(i, a.eval x), (j, a.eval y), (k, a.eval z), (l, a.eval u)] := by simp
  rw [e, hx, hy, hz, hu]
  exact hf
theorem wpList_buildTwoM (hg : o.guard = none) (t e : TypeId) (x y : Operand) (ho : o.op = .buildSlice t 2 #[(0, x), (1, y)]) (cx cy cells : Array Value) (ie : TypeInfo) (z : Value)
    (hu : P.underlying t = some (.slice e)) (hie : P.info? e = some ie) (hz : ie.zero = some z) (s : Nat) (hsz : ie.size = s) (hsmall : s ≤ 1000) (hpos : 0 < s)
    (hx : (a.eval x).cells = cx) (hy : (a.eval y).cells = cy) (hcx : cx.size = s) (hcy : cy.size = s) (hc : cx ++ cy = cells) (w1 : World) (hw : w.alloc (.cells cells e) = w1)
    (h : wpList P ops Q rest (a.put o.dst (.slice (some ⟨w.heap.size, 0, none⟩) 2 2)) w1) : wpList P ops Q (o :: rest) a w := by
  subst hw hc
  refine Go.wpList_buildSlice hg t e 2 #[(0, x), (1, y)] ho _ ie z hu hie hz (by rw [hsz]; omega) (by rw [hsz]; omega) ?_ h
  have e1 : (#[(0, x), (1, y)].map fun (i, x) => (i, a.eval x)).toList = [(0, a.eval x), (1, a.eval y)] := by simp
  rw [e1, hsz]
  have h := Great.fill_whole (s := s) hpos [a.eval x, a.eval y] ((Array.range (2 * s)).map (z.cells[· % z.cells.size]!)) (by
    intro v hv
    rcases List.mem_cons.1 hv with rfl | hv
    · rw [hx, hcx]
    · rw [List.mem_singleton.1 hv, hy, hcy]) (by simp)
  have e2 : (([a.eval x, a.eval y].zipIdx 0).map fun x => (x.2, x.1)) = [(0, a.eval x), (1, a.eval y)] := rfl
  rw [e2] at h
  rw [h]
  simp [hx, hy]
theorem wpList_buildFourM (hg : o.guard = none) (t e : TypeId) (x y u v : Operand) (ho : o.op = .buildSlice t 4 #[(0, x), (1, y), (2, u), (3, v)]) (cx cy cu cv cells : Array Value) (ie : TypeInfo) (z : Value)
    (ht : P.underlying t = some (.slice e)) (hie : P.info? e = some ie) (hz : ie.zero = some z) (s : Nat) (hsz : ie.size = s) (hsmall : s ≤ 1000) (hpos : 0 < s)
    (hx : (a.eval x).cells = cx) (hy : (a.eval y).cells = cy) (hu : (a.eval u).cells = cu) (hv : (a.eval v).cells = cv) (hcx : cx.size = s) (hcy : cy.size = s) (hcu : cu.size = s) (hcv : cv.size = s) (hc : cx ++ (cy ++ (cu ++ cv)) = cells) (w1 : World) (hw : w.alloc (.cells cells e) = w1)
    (h : wpList P ops Q rest (a.put o.dst (.slice (some ⟨w.heap.size, 0, none⟩) 4 4)) w1) : wpList P ops Q (o :: rest) a w := by
  subst hw hc
  refine Go.wpList_buildSlice hg t e 4 #[(0, x), (1, y), (2, u), (3, v)] ho _ ie z ht hie hz (by rw [hsz]; omega) (by rw [hsz]; omega) ?_ h
  have e1 : (#[(0, x), (1, y), (2, u), (3, v)].map fun (i, x) => (i, a.eval x)).toList = [(0, a.eval x), (1, a.eval y), (2, a.eval u), (3, a.eval v)] := by simp
  rw [e1, hsz]
  have h := Great.fill_whole (s := s) hpos [a.eval x, a.eval y, a.eval u, a.eval v] ((Array.range (4 * s)).map (z.cells[· % z.cells.size]!)) (by
    intro q hq
    rcases List.mem_cons.1 hq with rfl | hq
    · rw [hx, hcx]
    rcases List.mem_cons.1 hq with rfl | hq
    · rw [hy, hcy]
    rcases List.mem_cons.1 hq with rfl | hq
    · rw [hu, hcu]
    · rw [List.mem_singleton.1 hq, hv, hcv]) (by simp)
  have e2 : (([a.eval x, a.eval y, a.eval u, a.eval v].zipIdx 0).map fun x => (x.2, x.1)) = [(0, a.eval x), (1, a.eval y), (2, a.eval u), (3, a.eval v)] := rfl
  rw [e2] at h
  rw [h]
  simp [hx, hy, hu, hv]
end
theorem wpList_load_midG {P : Program} {ops : Array Oper} {rest : List Oper} {op : Oper} {a : Act} {w : World} {Q : Exit → Act → World → Prop} (hw : Region.wanted op (yielded ops a.tmps) = true) (ty : TypeId) (x : Operand) (ho : op.op = .load ty x)
    (b o : Nat) (hx : a.eval x = .pointer (some ⟨b, o, none⟩)) (cs : List Value) (d : TypeDesc) (hc : w.rangeAt b o cs)
    (hu : P.underlying ty = some d) (hd : d.isRow = true) (hi : (P.info? ty).map (·.size) = some cs.length)
    (h : wpList P ops Q rest (a.put op.dst (.agg cs.toArray)) w) : wpList P ops Q (op :: rest) a w :=
  BigFrame.wpList_want hw fun _ hK => wp_load_mid ty x ho b o hx cs d hc hu hd hi (hK _ _ h)
theorem rowOf {α : Type} {E : ElemK α} {B : Nat → Prop} {w : World} {L : List α} (css : List (List Value)) {b : Nat} {e : TypeId} {fr : Nat × Nat} {n cap : Nat} {cells : Array Value} (hk : w.heap[b]? = some (.cells cells e fr)) (hcs : css.flatten.toArray = cells) (hl : css.length = L.length ∧ n = L.length)
    (hR : ∀ (k : Nat) (h1 : k < L.length) (h2 : k < css.length), E.R B w L[k] css[k]) (hB : B b) (hc : L.length ≤ cap) : E.Row B w L (.slice (some ⟨b, 0, none⟩) n cap) := by
  obtain ⟨hl, hn⟩ := hl
  subst hn hcs
  refine .inr ⟨b, 0, cap, rfl, hB, (Array.getElem?_eq_some_iff.1 hk).1, hc, fun k hk2 => ⟨css[k]'(by omega), fun j u hu => ?_, hR k hk2 (by omega)⟩⟩
  rw [Nat.zero_add, cell_of_blk hk, List.getElem?_toArray]
  refine flatten_at css k (by omega) j u (fun c hc2 => ?_) hu
  obtain ⟨i, hi, rfl⟩ := List.getElem_of_mem hc2
  exact E.len (hR i (by omega) hi)
theorem lvJB : JB lvJ where
  steps := by decide
  timeout := by unfold i64R; decide
  inputs := by decide
  inputN := by decide
  uses := by decide
  outputs := by decide
  caches := by decide
  secrets := by decide
  stepN := by unfold i64R; decide
theorem lvVB : VB lvV where
  files := by decide
  arts := by decide
  secs := by decide
  caches := by decide
  keys := by decide
  tests := by decide
  times := by decide
  ign := by decide
  fileN := by decide
  artN := fun o h => absurd h List.not_mem_nil
  secN := fun o h => absurd h List.not_mem_nil
  keyN := fun o h => absurd h List.not_mem_nil
abbrev stpC : Array Value := #[.int .i64 1, .string bA, .string bE, .int .i64 0, .int .i64 5, .string bO, .string bE, .int .i64 0, .int .i64 6, .string bE, .string bHi, .int .i64 0, .int .i64 10, .string bE, .string bE, .int .i64 3]
abbrev filC : Array Value := #[.string bA, .int .u64 5, .string bB, .int .u64 6]
set_option maxRecDepth 100000 in
set_option maxHeartbeats 6400000 in
theorem lives_any (m : Int) (w : World) (hm : w.cell? ⟨0, 0, none⟩ = some (.int .i64 m)) : Calls Tryz.prog 11 #[] w (LawPost w) := by
  obtain ⟨iS, hiS, hzS, hnS, hyS⟩ := Tryz.infoStr'
  obtain ⟨iP, hiP, hzP, hnP, hyP⟩ := Tryz.infoStep'
  obtain ⟨iF, hiF, hzF, hnF, hyF⟩ := Tryz.infoFile'
  have HIS := Lib.hid hiS
  have HIP := Lib.hid hiP
  have HIF := Lib.hid hiF
  obtain ⟨wa, hwa⟩ : ∃ W, w.alloc (.cells #[.string bA] 9) = W := ⟨_, rfl⟩
  obtain ⟨wb, hwb⟩ : ∃ W, wa.alloc (.cells #[.string bO] 9) = W := ⟨_, rfl⟩
  obtain ⟨wc, hwc⟩ : ∃ W, wb.alloc (.cells stpC tStep) = W := ⟨_, rfl⟩
  have sa : wa.heap.size = w.heap.size + 1 := by rw [← hwa]; simp
  have sb : wb.heap.size = w.heap.size + 1 + 1 := by rw [← hwb]; simp [sa]
  have sc : wc.heap.size = w.heap.size + 1 + 1 + 1 := by rw [← hwc]; simp [sb]
  have HA : Hid (wc.heap[w.heap.size]? = some (.cells #[.string bA] 9 (0, 0))) := by unfold Hid; rw [← hwc]; exact (hp_old (by omega)).trans (by rw [← hwb]; exact (hp_old (by omega)).trans (by rw [← hwa]; exact hp_new rfl))
  have HBO : Hid (wc.heap[w.heap.size + 1]? = some (.cells #[.string bO] 9 (0, 0))) := by unfold Hid; rw [← hwc]; exact (hp_old (by omega)).trans (by rw [← hwb]; exact hp_new (by omega))
  have HST : Hid (wc.heap[w.heap.size + 1 + 1]? = some (.cells stpC tStep (0, 0))) := by unfold Hid; rw [← hwc]; exact hp_new (by omega)
  have HBC : Hid (Below w.heap.size w wc) := by unfold Hid; rw [← hwc, ← hwb, ← hwa]; exact (((Below.refl _ w).alloc (Nat.le_refl _) _).alloc (by simp) _).alloc (by simp; omega) _
  have HWA := Lib.hid hwa
  have HWB := Lib.hid hwb
  have HWC := Lib.hid hwc
  have HM := Lib.hid hm
  have HSA := Lib.hid sa
  have HSB := Lib.hid sb
  have HSC := Lib.hid sc
  clear hiS hiP hiF hwa hwb hwc hm sa sb sc
  go_enter Tryz.func11, Tryz.ntmps11
  go_upto_region 1 with fail
  refine wp_region_lit ?_
  refine wpList_build1 rfl 22 9 _ rfl #[.string bA] iS _ Tryz.underlying22 HIS.out hzS 1 hnS (by decide) (by decide) rfl rfl ?_
  rw [HWA.out]
  try simp only [Act.put, zA, zB, zC]
  refine wpList_build1 rfl 22 9 _ rfl #[.string bO] iS _ Tryz.underlying22 HIS.out hzS 1 hnS (by decide) (by decide) rfl rfl ?_
  rw [HWB.out, HSA.out]
  try simp only [Act.put, zA, zB, zC]
  refine wpList_build2I rfl tStep _ _ rfl (.int .i64 1) (.string bA) rfl rfl _ (Tryz.built_st1 _ _) ?_
  try simp only [Act.put, zA, zB, zC]
  refine wpList_build2I rfl tStep _ _ rfl (.int .i64 5) (.string bO) rfl rfl _ (Tryz.built_st1 _ _) ?_
  try simp only [Act.put, zA, zB, zC]
  refine wpList_build2I rfl tStep _ _ rfl (.int .i64 6) (.string bHi) rfl rfl _ (Tryz.built_st2 _ _) ?_
  try simp only [Act.put, zA, zB, zC]
  refine wpList_build2I rfl tStep _ _ rfl (.int .i64 10) (.int .i64 3) rfl rfl _ (Tryz.built_st3 _ _) ?_
  try simp only [Act.put, zA, zB, zC]
  refine wpList_buildFourM rfl 30 tStep _ _ _ _ rfl #[.int .i64 1, .string bA, .string bE, .int .i64 0] #[.int .i64 5, .string bO, .string bE, .int .i64 0] #[.int .i64 6, .string bE, .string bHi, .int .i64 0] #[.int .i64 10, .string bE, .string bE, .int .i64 3] stpC iP _ Tryz.underlying30 HIP.out hzP 4 hnP (by decide) (by decide) rfl rfl rfl rfl rfl rfl rfl rfl rfl wc HWC.out ?_
  rw [HSB.out]
  try simp only [Act.put, zA, zB, zC]
  refine wpList_build4I rfl tJob _ _ _ _ rfl (.slice (some ⟨w.heap.size, 0, none⟩) 1 1) (.slice (some ⟨w.heap.size + 1, 0, none⟩) 1 1) (.int .i64 10) (.slice (some ⟨w.heap.size + 1 + 1, 0, none⟩) 4 4) rfl rfl rfl rfl _ (Tryz.built_jobL _ _ _) ?_
  try simp only [Act.put, zA, zB, zC]
  go_wp2_with (refine wpList_store_row rfl tJob _ _ rfl wc.heap.size rfl tJob _ (hp_new rfl) (.agg (jobC (lvC (.slice (some ⟨w.heap.size, 0, none⟩) 1 1) (.slice (some ⟨w.heap.size + 1, 0, none⟩) 1 1) (.slice (some ⟨w.heap.size + 1 + 1, 0, none⟩) 4 4) undef))) rfl (by kernel_rfl) rfl rfl ?_)
  intro w1 hw1
  have HBc : Hid (Below wc.heap.size wc w1) := ((Below.refl _ wc).alloc (Nat.le_refl _) _).trans (hw1.below (Nat.le_refl _))
  have HJ1 : Hid (w1.heap[w.heap.size + 1 + 1 + 1]? = some (.cells (jobC (lvC (.slice (some ⟨w.heap.size, 0, none⟩) 1 1) (.slice (some ⟨w.heap.size + 1, 0, none⟩) 1 1) (.slice (some ⟨w.heap.size + 1 + 1, 0, none⟩) 4 4) undef)) tJob (0, 0))) := by
    have := hw1.at_
    rw [HSC.out] at this
    exact this
  have z1 : w.heap.size + 1 + 1 + 1 < w1.heap.size := (Array.getElem?_eq_some_iff.1 HJ1.out).1
  have hcs := HSC.out
  have HA1 := Lib.hid ((HBc.out.block _ (by omega)).trans HA.out)
  have HB1 := Lib.hid ((HBc.out.block _ (by omega)).trans HBO.out)
  have HS1 := Lib.hid ((HBc.out.block _ (by omega)).trans HST.out)
  have HBL : Hid (Below w.heap.size w w1) := HBC.out.trans (HBc.out.mono HBC.out.size)
  rw [HSC.out]
  clear hw1 HBc HA HBO HST HWA HWB HWC HSA HSB HSC HBC hcs
  go_upto_region 2 with fail
  obtain ⟨wf, hwf⟩ : ∃ W, w1.alloc (.cells filC tFile) = W := ⟨_, rfl⟩
  have HWF := Lib.hid hwf
  have HFF : Hid (wf.heap[w1.heap.size]? = some (.cells filC tFile (0, 0))) := by unfold Hid; rw [← hwf]; exact hp_new rfl
  have HBf : Hid (Below w1.heap.size w1 wf) := by unfold Hid; rw [← hwf]; exact (Below.refl _ w1).alloc (Nat.le_refl _) _
  clear hwf
  refine wp_region_lit ?_
  refine wpList_build2I rfl tFile _ _ rfl (.string bA) (.int .u64 5) rfl rfl _ (Tryz.built_fil _ _) ?_
  try simp only [Act.put, zA, zB, zC]
  refine wpList_build2I rfl tFile _ _ rfl (.string bB) (.int .u64 6) rfl rfl _ (Tryz.built_fil _ _) ?_
  try simp only [Act.put, zA, zB, zC]
  refine wpList_buildTwoM rfl 39 tFile _ _ rfl #[.string bA, .int .u64 5] #[.string bB, .int .u64 6] filC iF _ Tryz.underlying39 HIF.out hzF 2 hnF (by decide) (by decide) rfl rfl rfl rfl rfl wf HWF.out ?_
  try simp only [Act.put, zA, zB, zC]
  refine wpList_build1I rfl tView _ rfl (.slice (some ⟨w1.heap.size, 0, none⟩) 2 2) rfl _ (Tryz.built_viewL _) ?_
  try simp only [Act.put, zA, zB, zC]
  go_wp2_with (refine wpList_store_row rfl tView _ _ rfl wf.heap.size rfl tView _ (hp_new rfl) (.agg (viewC (lvC undef undef undef (.slice (some ⟨w1.heap.size, 0, none⟩) 2 2)))) rfl (by kernel_rfl) rfl rfl ?_)
  intro w2 hw2
  have hvc : w2.heap[wf.heap.size]? = some (.cells (viewC (lvC undef undef undef (.slice (some ⟨w1.heap.size, 0, none⟩) 2 2))) tView (0, 0)) := hw2.at_
  have HBg : Hid (Below wf.heap.size wf w2) := ((Below.refl _ wf).alloc (Nat.le_refl _) _).trans (hw2.below (Nat.le_refl _))
  have HB12 : Hid (Below w1.heap.size w1 w2) := HBf.out.trans (HBg.out.mono HBf.out.size)
  have hzf := HBf.out.size
  have zv : wf.heap.size < w2.heap.size := (Array.getElem?_eq_some_iff.1 hvc).1
  have zf : w1.heap.size < wf.heap.size := (Array.getElem?_eq_some_iff.1 HFF.out).1
  have HF2 := Lib.hid ((HBg.out.block _ zf).trans HFF.out)
  have HA2 := Lib.hid ((HB12.out.block _ (by omega)).trans HA1.out)
  have HB2 := Lib.hid ((HB12.out.block _ (by omega)).trans HB1.out)
  have HS2 := Lib.hid ((HB12.out.block _ (by omega)).trans HS1.out)
  have HJ2 : Hid (w2.heap[w.heap.size + 1 + 1 + 1]? = some (.cells (jobC (lvC (.slice (some ⟨w.heap.size, 0, none⟩) 1 1) (.slice (some ⟨w.heap.size + 1, 0, none⟩) 1 1) (.slice (some ⟨w.heap.size + 1 + 1, 0, none⟩) 4 4) (.slice (some ⟨w1.heap.size, 0, none⟩) 2 2))) tJob (0, 0))) := (HB12.out.block _ (by omega)).trans HJ1.out
  have HV2 : Hid (w2.heap[wf.heap.size]? = some (.cells (viewC (lvC (.slice (some ⟨w.heap.size, 0, none⟩) 1 1) (.slice (some ⟨w.heap.size + 1, 0, none⟩) 1 1) (.slice (some ⟨w.heap.size + 1 + 1, 0, none⟩) 4 4) (.slice (some ⟨w1.heap.size, 0, none⟩) 2 2))) tView (0, 0))) := hvc
  have HBW : Hid (Below w.heap.size w w2) := HBL.out.trans (HB12.out.mono HBL.out.size)
  have HVA : Hid (VAt w2.heap.size (lvC (.slice (some ⟨w.heap.size, 0, none⟩) 1 1) (.slice (some ⟨w.heap.size + 1, 0, none⟩) 1 1) (.slice (some ⟨w.heap.size + 1 + 1, 0, none⟩) 4 4) (.slice (some ⟨w1.heap.size, 0, none⟩) 2 2)) lvV w2) :=
    ⟨rowOf (E := EFile) [[.string bA, .int .u64 5], [.string bB, .int .u64 6]] HF2.out rfl ⟨rfl, rfl⟩ (fun k h1 h2 => by
      have : k = 0 ∨ k = 1 := by simp at h1; omega
      rcases this with rfl | rfl <;> rfl) (by omega) (Nat.le_refl _), .nil, .nil, .nil, .nil, .nil, .nil, .nil, rfl⟩
  have HJA : Hid (JAt w2.heap.size (lvC (.slice (some ⟨w.heap.size, 0, none⟩) 1 1) (.slice (some ⟨w.heap.size + 1, 0, none⟩) 1 1) (.slice (some ⟨w.heap.size + 1 + 1, 0, none⟩) 4 4) (.slice (some ⟨w1.heap.size, 0, none⟩) 2 2)) lvJ w2) :=
    ⟨rowOf (E := EStep) [[.int .i64 1, .string bA, .string bE, .int .i64 0], [.int .i64 5, .string bO, .string bE, .int .i64 0], [.int .i64 6, .string bE, .string bHi, .int .i64 0], [.int .i64 10, .string bE, .string bE, .int .i64 3]] HS2.out rfl ⟨rfl, rfl⟩ (fun k h1 h2 => by
      have : k = 0 ∨ k = 1 ∨ k = 2 ∨ k = 3 := by simp at h1; omega
      rcases this with rfl | rfl | rfl | rfl <;> rfl) (by omega) (Nat.le_refl _), rfl, rowOf (E := EStr) [[.string bA]] HA2.out rfl ⟨rfl, rfl⟩ (fun k h1 h2 => by
      have : k = 0 := by simp at h1; omega
      subst this; rfl) (by omega) (Nat.le_refl _), .nil, rowOf (E := EStr) [[.string bO]] HB2.out rfl ⟨rfl, rfl⟩ (fun k h1 h2 => by
      have : k = 0 := by simp at h1; omega
      subst this; rfl) (by omega) (Nat.le_refl _), ⟨none, 0, rfl⟩, .nil, rfl⟩
  generalize lvC (.slice (some ⟨w.heap.size, 0, none⟩) 1 1) (.slice (some ⟨w.heap.size + 1, 0, none⟩) 1 1) (.slice (some ⟨w.heap.size + 1 + 1, 0, none⟩) 4 4) (.slice (some ⟨w1.heap.size, 0, none⟩) 2 2) = c at *
  obtain ⟨gJ, hgJ⟩ : ∃ g, w.heap.size + 1 + 1 + 1 = g := ⟨_, rfl⟩
  obtain ⟨gV, hgV⟩ : ∃ g, wf.heap.size = g := ⟨_, rfl⟩
  rw [hgJ] at HJ2
  rw [hgV] at HV2 zv
  rw [hgJ, hgV]
  have zj : gJ < w2.heap.size := (Array.getElem?_eq_some_iff.1 HJ2.out).1
  clear hw2 hvc HBg HB12 HA2 HB2 HS2 HF2 HBf HFF HWF HA1 HB1 HS1 HJ1 HBL hgJ hgV z1 zf hzf
  have HM2 : Hid (w2.cell? ⟨0, 0, none⟩ = some (.int .i64 m)) := (HBW.out.cell (p := ⟨0, 0, none⟩) (World.block_lt_of_cell? w _ HM.out)).trans HM.out
  have EX := Lib.hid (exec_any c lvJ lvV (by decide) lvJB lvVB m w2 HM2.out HVA.out HJA.out)
  unfold ExPost at EX
  go_upto_region 3 with fail
  refine wp_region_lit ?_
  refine wpList_load_mid rfl tJob (.tmp 1) rfl gJ 0 rfl (jobL c) _ (range_job HJ2.out) Tryz.underlying38 rfl (by kernel_rfl) ?_
  try simp only [Act.put, zA, zB, zC]
  refine wpList_load_mid rfl tView (.tmp 2) rfl gV 0 rfl (viewL c) _ (range_view HV2.out) Tryz.underlying45 rfl (by kernel_rfl) ?_
  try simp only [Act.put, zA, zB, zC]
  go_wp2_with fail
  refine EX.out.mono ?_
  rintro e w3 ⟨u, rfl, heff, hb3⟩
  obtain ⟨iv, ov, tv, sv, lg, rfl, f1, f2, f3, f4, f5⟩ := heff
  obtain ⟨io, ic, rfl⟩ := f2.form
  obtain ⟨oo, oc, rfl⟩ := f3.form
  obtain ⟨tt, tc, rfl⟩ := f4.form
  obtain ⟨so, sc', rfl⟩ := f5.form
  obtain ⟨od, oz, q0⟩ := lv_out
  have q1 := lv_status
  have q2 := lv_in
  have q3 := lv_log
  have q4 := lv_time
  obtain ⟨E, hE⟩ : ∃ E, execF (declF [bA]) lvJ lvV = E := ⟨_, rfl⟩
  rw [hE] at q0 q1 q2 q3 q4 f1 f2 f3 f4 f5 ⊢
  clear hE
  obtain ⟨E1, E2, EI, EO, ET, EC, EL, EM, ES⟩ := E
  dsimp only at q0 q1 q2 q3 q4 f1 f2 f3 f4 f5 ⊢
  subst q0 q1 q2 q3 q4
  have hlg := ba_of f1
  subst hlg
  obtain ⟨b1, o1, cs1, rfl, _, l1, k1, r1⟩ := f3.at (k := 0) (Nat.zero_lt_succ _)
  obtain ⟨b2, o2, cs2, rfl, _, l2, k2, r2⟩ := f2.at (k := 0) (Nat.zero_lt_succ _)
  have hcs1 : cs1 = [.string bO, .int .u64 (od : Nat), .int .i64 oz] := r1
  have hcs2 : cs2 = [.string ⟨#[102, 105, 108, 101, 58, 97]⟩, .int .u64 5, .int .i64 0] := r2
  subst hcs1 hcs2
  have y0 : w3.cell? ⟨b1, o1 + 0 * 3 + 0, none⟩ = _ := k1 0 _ rfl
  have x0 : w3.cell? ⟨b2, o2 + 0 * 3 + 0, none⟩ = _ := k2 0 _ rfl
  have x1 : w3.cell? ⟨b2, o2 + 0 * 3 + 1, none⟩ = _ := k2 1 _ rfl
  have x2 : w3.cell? ⟨b2, o2 + 0 * 3 + 2, none⟩ = _ := k2 2 _ rfl
  simp only [Nat.zero_mul, Nat.add_zero] at y0 x0 x1 x2
  have Y0 := Lib.hid y0
  have X0 := Lib.hid x0
  have X1 := Lib.hid x1
  have X2 := Lib.hid x2
  have HB3 := Lib.hid hb3
  simp only [List.length_cons, List.length_nil, Nat.zero_add] at *
  clear y0 x0 x1 x2 k1 k2 r1 r2 f1 f2 f3 f4 f5 hb3 EX
  go_wp2_with (refine wpList_store_row rfl tEff _ _ rfl w3.heap.size rfl tEff _ (hp_new rfl) (.agg #[.int .i64 1, .int .i64 E2, .slice (some ⟨b2, o2, none⟩) 1 ic, .slice (some ⟨b1, o1, none⟩) 1 oc, .slice tt ET.length tc, .string EC, .string ⟨#[104, 105, 10]⟩, .int .i64 3, .slice so ES.length sc']) rfl (by kernel_rfl) rfl rfl ?_)
  intro w4 hw4
  have HE4 : Hid (w4.heap[w3.heap.size]? = some (.cells #[.int .i64 1, .int .i64 E2, .slice (some ⟨b2, o2, none⟩) 1 ic, .slice (some ⟨b1, o1, none⟩) 1 oc, .slice tt ET.length tc, .string EC, .string ⟨#[104, 105, 10]⟩, .int .i64 3, .slice so ES.length sc'] tEff (0, 0))) := hw4.at_
  have HB34 : Hid (Below w3.heap.size w3 w4) := ((Below.refl _ w3).alloc (Nat.le_refl _) _).trans (hw4.below (Nat.le_refl _))
  have HB24 : Hid (Below w2.heap.size w2 w4) := HB3.out.trans (HB34.out.mono HB3.out.size)
  obtain ⟨gE, hgE⟩ : ∃ g, w3.heap.size = g := ⟨_, rfl⟩
  rw [hgE] at HE4
  rw [hgE]
  have ze : gE < w4.heap.size := (Array.getElem?_eq_some_iff.1 HE4.out).1
  have z24 := HB24.out.size
  have RS := Lib.hid (restrict_any c lvJ lvV lvJB lvVB (fun s h => absurd h List.not_mem_nil) w4 ((HVA.out.below HB24.out).mono z24) ((HJA.out.below HB24.out).mono z24))
  unfold RePost at RS
  have HJ4 := Lib.hid ((HB24.out.block _ zj).trans HJ2.out)
  have HV4 := Lib.hid ((HB24.out.block _ zv).trans HV2.out)
  clear hw4
  go_upto_region 4 with fail
  refine wp_region_lit ?_
  refine wpList_load_mid rfl tJob (.tmp 1) rfl gJ 0 rfl (jobL c) _ (range_job HJ4.out) Tryz.underlying38 rfl (by kernel_rfl) ?_
  try simp only [Act.put, zA, zB, zC]
  refine wpList_load_mid rfl tView (.tmp 2) rfl gV 0 rfl (viewL c) _ (range_view HV4.out) Tryz.underlying45 rfl (by kernel_rfl) ?_
  try simp only [Act.put, zA, zB, zC]
  go_wp2_with fail
  refine RS.out.mono ?_
  rintro e w5 ⟨d, rfl, hvd, hb5⟩
  obtain ⟨a0, c0, d39⟩ := hvd.files.form
  obtain ⟨a1, c1, d40⟩ := hvd.arts.form
  obtain ⟨a2, c2, d41⟩ := hvd.secs.form
  obtain ⟨a3, c3, d42⟩ := hvd.caches.form
  obtain ⟨a4, c4, d43⟩ := hvd.keys.form
  obtain ⟨a5, c5, d44⟩ := hvd.tests.form
  obtain ⟨a6, c6, d45⟩ := hvd.times.form
  obtain ⟨a7, c7, d46⟩ := hvd.ign.form
  have d47 := hvd.att
  rw [lv_file] at d39
  generalize restrictF (declF lvJ.inputs) lvJ lvV = rv at *
  unfold viewA
  rw [d39, d40, d41, d42, d43, d44, d45, d46, d47]
  have HB45 := Lib.hid hb5
  clear hvd d39 d40 d41 d42 d43 d44 d45 d46 d47 hb5 RS
  go_wp2_with (refine wpList_store_row rfl tView _ _ rfl w5.heap.size rfl tView _ (hp_new rfl) (.agg #[.slice a0 1 c0, .slice a1 rv.arts.length c1, .slice a2 rv.secs.length c2, .slice a3 rv.caches.length c3, .slice a4 rv.keys.length c4, .slice a5 rv.tests.length c5, .slice a6 rv.times.length c6, .slice a7 rv.ignored.length c7, .int .i64 rv.attempt]) rfl (by kernel_rfl) rfl rfl ?_)
  intro w6 hw6
  have HR6 : Hid (w6.heap[w5.heap.size]? = some (.cells #[.slice a0 1 c0, .slice a1 rv.arts.length c1, .slice a2 rv.secs.length c2, .slice a3 rv.caches.length c3, .slice a4 rv.keys.length c4, .slice a5 rv.tests.length c5, .slice a6 rv.times.length c6, .slice a7 rv.ignored.length c7, .int .i64 rv.attempt] tView (0, 0))) := hw6.at_
  have HB56 : Hid (Below w5.heap.size w5 w6) := ((Below.refl _ w5).alloc (Nat.le_refl _) _).trans (hw6.below (Nat.le_refl _))
  have HB46 : Hid (Below w4.heap.size w4 w6) := HB45.out.trans (HB56.out.mono HB45.out.size)
  have HB26 : Hid (Below w2.heap.size w2 w6) := HB24.out.trans (HB46.out.mono HB24.out.size)
  have HB36 : Hid (Below w3.heap.size w3 w6) := HB34.out.trans (HB46.out.mono HB34.out.size)
  have HBW6 : Hid (Below w.heap.size w w6) := HBW.out.trans (HB26.out.mono HBW.out.size)
  obtain ⟨gR, hgR⟩ : ∃ g, w5.heap.size = g := ⟨_, rfl⟩
  rw [hgR] at HR6
  rw [hgR]
  have HJ6 := Lib.hid ((HB26.out.block _ zj).trans HJ2.out)
  have HE6 := Lib.hid ((HB46.out.block _ ze).trans HE4.out)
  have p0 : w6.cell? ⟨b1, o1, none⟩ = some (.string bO) := (HB36.out.cell (p := ⟨b1, o1, none⟩) l1).trans Y0.out
  have p1 : w6.cell? ⟨b2, o2, none⟩ = some (.string ⟨#[102, 105, 108, 101, 58, 97]⟩) := (HB36.out.cell (p := ⟨b2, o2, none⟩) l2).trans X0.out
  have p2 : w6.cell? ⟨b2, o2 + 1, none⟩ = some (.int .u64 5) := (HB36.out.cell (p := ⟨b2, o2 + 1, none⟩) l2).trans X1.out
  have p3 : w6.cell? ⟨b2, o2 + 2, none⟩ = some (.int .i64 0) := (HB36.out.cell (p := ⟨b2, o2 + 2, none⟩) l2).trans X2.out
  have P0 := Lib.hid p0
  have P1 := Lib.hid p1
  have P2 := Lib.hid p2
  have P3 := Lib.hid p3
  have ji := (HJA.out.below HB26.out).inputs
  obtain ⟨jo, jc, h24⟩ := ji.form
  rw [h24] at ji
  have H24 := Lib.hid h24
  have JI := Lib.hid ji
  have DC := Lib.hid (fun (p : ByteArray) (W : World) (hp : p.size ≤ 1000000) (hb : Below w6.heap.size w6 W) => decl_any c [bA] jo jc p _ hp (by decide) (by decide) H24.out W (JI.out.below hb))
  have zj6 : gJ < w6.heap.size := (Array.getElem?_eq_some_iff.1 HJ6.out).1
  have ze6 : gE < w6.heap.size := (Array.getElem?_eq_some_iff.1 HE6.out).1
  have zr6 : gR < w6.heap.size := (Array.getElem?_eq_some_iff.1 HR6.out).1
  have z36 := HB36.out.size
  have z36a : b1 < w6.heap.size := Nat.lt_of_lt_of_le l1 z36
  have z36b : b2 < w6.heap.size := Nat.lt_of_lt_of_le l2 z36
  clear hw6 p0 p1 p2 p3 ji h24 hgR hgE Y0 X0 X1 X2 l1 l2 HVA HJA HM2 HB24 HB34 HB45 HB56 HB46 HB26 HB36 HBW HE4 HJ4 HV4 HJ2 HV2 HB3 zv zj ze z24
  go_upto_region 5 with fail
  refine wp_region_lit ?_
  refine wpList_load_mid rfl tJob (.tmp 1) rfl gJ 0 rfl (jobL c) _ (range_job HJ6.out) Tryz.underlying38 rfl (by kernel_rfl) ?_
  try simp only [Act.put, zA, zB, zC]
  go_wp2_with fail
  refine (DC.out bA _ (by decide) (Below.refl _ _)).mono ?_
  rintro e w7 ⟨rfl, hb7⟩
  rw [lv_a]
  have HB7 := Lib.hid hb7
  have HJ7 := Lib.hid ((hb7.block _ zj6).trans HJ6.out)
  clear hb7
  rename_i K0 hK0 K1 hK1
  dsimp only
  refine hK1 _ _ ?_
  clear hK1 K1
  try simp only [Act.put, zA, zB, zC]
  refine wpList_plain rfl (fun K hK => ?_)
  go_simp
  refine hK _ _ ?_
  clear hK K
  try simp only [Act.put, zA, zB, zC]
  refine wpList_load_midG (by rfl) tJob (.tmp 1) rfl gJ 0 rfl (jobL c) _ (range_job HJ7.out) Tryz.underlying38 rfl (by kernel_rfl) ?_
  try simp only [Act.put, zA, zB, zC]
  go_wp2_with fail
  refine (DC.out bB _ (by decide) HB7.out).mono ?_
  rintro e w8 ⟨rfl, hb8⟩
  rw [lv_b]
  have HB8 := Lib.hid (HB7.out.trans (hb8.mono HB7.out.size))
  clear hb8
  have kE := (HB8.out.block _ ze6).trans HE6.out
  have kR := (HB8.out.block _ zr6).trans HR6.out
  have r0 : w8.cell? ⟨gR, 0, none⟩ = some (.slice a0 1 c0) := cell_of_blk kR 0
  have g0 : w8.cell? ⟨gE, 0, none⟩ = some (.int .i64 1) := cell_of_blk kE 0
  have g2 : w8.cell? ⟨gE, 2, none⟩ = some (.slice (some ⟨b2, o2, none⟩) 1 ic) := cell_of_blk kE 2
  have g3 : w8.cell? ⟨gE, 3, none⟩ = some (.slice (some ⟨b1, o1, none⟩) 1 oc) := cell_of_blk kE 3
  have g6 : w8.cell? ⟨gE, 6, none⟩ = some (.string ⟨#[104, 105, 10]⟩) := cell_of_blk kE 6
  have g7 : w8.cell? ⟨gE, 7, none⟩ = some (.int .i64 3) := cell_of_blk kE 7
  have p0 : w8.cell? ⟨b1, o1, none⟩ = some (.string bO) := (HB8.out.cell (p := ⟨b1, o1, none⟩) z36a).trans P0.out
  have p1 : w8.cell? ⟨b2, o2, none⟩ = some (.string ⟨#[102, 105, 108, 101, 58, 97]⟩) := (HB8.out.cell (p := ⟨b2, o2, none⟩) z36b).trans P1.out
  have p2 : w8.cell? ⟨b2, o2 + 1, none⟩ = some (.int .u64 5) := (HB8.out.cell (p := ⟨b2, o2 + 1, none⟩) z36b).trans P2.out
  have p3 : w8.cell? ⟨b2, o2 + 2, none⟩ = some (.int .i64 0) := (HB8.out.cell (p := ⟨b2, o2 + 2, none⟩) z36b).trans P3.out
  clear kE kR HJ6 HJ7 HE6 HR6 DC JI H24 P0 P1 P2 P3
  go_wp2_with fail
  refine (size_any 65536 _).mono ?_
  rintro e w9 ⟨rfl, hw9⟩
  rw [hw9, lv_size]
  clear hw9 w9
  go_wp2_with fail
  refine (memo_any ⟨#[107]⟩ (by decide) _).mono ?_
  rintro e w9 ⟨rfl, hb9⟩
  have HB9 := Lib.hid (HB8.out.trans (hb9.mono HB8.out.size))
  have HNE : Hid (((memoF ⟨#[107]⟩ : Nat) : Int) ≠ ((memoF ⟨#[108]⟩ : Nat) : Int)) := fun h => lv_memo (Int.ofNat.inj h)
  generalize memoF ⟨#[107]⟩ = m1 at *
  clear hb9
  go_wp2_with fail
  refine (memo_any ⟨#[108]⟩ (by decide) _).mono ?_
  rintro e w10 ⟨rfl, hb10⟩
  have HB10 := Lib.hid (HB9.out.trans (hb10.mono HB9.out.size))
  generalize memoF ⟨#[108]⟩ = m2 at *
  have hne : (((m1 : Nat) : Int) != ((m2 : Nat) : Int)) = true := by
    have := HNE.out
    simpa using this
  clear hb10
  go_wp2_with fail
  go_ret
  exact ⟨rfl, HBW6.out.trans (HB10.out.mono HBW6.out.size)⟩
end Go.Proofs.YtghahghbahcpfaaGreatDoor
