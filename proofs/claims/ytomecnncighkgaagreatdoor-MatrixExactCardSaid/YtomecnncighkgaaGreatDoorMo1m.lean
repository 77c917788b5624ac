/- Arguments opened, by kinds: lists, structs of a string and a thing, matrices; with the form's bounds and the bulk. -/
import Derived.Test.YtomecnncighkgaaGreatDoorVa2
import Derived.Test.YtomecnncighkgaaGreatDoorMl1
import Derived.ProofKit
import Derived.OpenShut
import Derived.Lib.LaidIn
import Derived.Lib.LaidU8
import Derived.Lay
import Derived.LaidLaws
import Derived.Deep.DeepHandedRow
import Derived.Deep.DeepWitnessRowRef
import Derived.SizedLaws
namespace Go.Proofs.YtomecnncighkgaaGreatDoor
open Go.ChangeShapes Go.WideShapes Go.Deep Go.RowKit

section
variable {H : Type} {enc : TypeId × Value → H} {P : Program} {w : World} {α β : Type}
/-- what reads at a type is a thing of a kind -/
def Opens (enc : TypeId × Value → H) (P : Program) (w : World) (E : ElemK α) (ok fit : α → Prop) (bk : α → Nat) (e : TypeId) : Prop :=
  ∀ (n : Nat) (cs : List Value) (x : DataW H × List MemPlace), DataW.trod enc P w 0 (fun _ => true) true n e cs = some x →
    ∃ a : α, (E.R (fun b => b < w.heap.size) w a cs ∧ ok a) ∧ (Reach P e x.1 → fit a) ∧ bk a ≤ Rows.uptoBulk x.1
theorem Opens.row {E : ElemK α} {ok fit : α → Prop} {bk : α → Nat} {t e : TypeId} (hE : Opens enc P w E ok fit bk e) (hC : P.cellsOf e = E.sz) (ht : P.underlying t = some (.slice e)) {n : Nat} {v : Value} {x : DataW H × List MemPlace} (h : DataW.trod enc P w 0 (fun _ => true) true n t [v] = some x) :
    ∃ L : List α, (E.Row (fun b => b < w.heap.size) w L v ∧ L.length ≤ 9223372036854775807 ∧ ∀ q ∈ L, ok q) ∧ (Reach P t x.1 → L.length * P.bytesOf e ≤ reachBytes ∧ ∀ q ∈ L, fit q) ∧ (L.map bk).sum + 1 ≤ Rows.uptoBulk x.1 := by
  obtain ⟨L, hLl, hLr, hL⟩ := row_of2 (enc := enc) (R := fun cs (q : α) => E.R (fun b => b < w.heap.size) w q cs ∧ ok q) (G := fun d (q : α) => (Reach P e d → fit q) ∧ bk q ≤ Rows.uptoBulk d) hC ht E.pos (fun cs q h => E.len h.1) (fun m cs y _ hy => by
    obtain ⟨a, h1, h2, h3⟩ := hE m cs y hy
    exact ⟨a, h1, h2, h3⟩) h
  refine ⟨L, ⟨?_, hLl, fun q hq => ?_⟩, fun hr => ?_, ?_⟩
  · rcases hL with h | ⟨bl, off, cap, h1, h2, h3, h4⟩
    · exact .inl h
    · exact .inr ⟨bl, off, cap, h1, h2, h2, h3, fun k hk => by
        obtain ⟨cs, q1, q2, _⟩ := h4 k hk
        exact ⟨cs, q1, q2⟩⟩
  · obtain ⟨j, hj, rfl⟩ := List.getElem_of_mem hq
    rcases hL with ⟨_, _, _, rfl⟩ | ⟨_, _, _, _, _, _, hr⟩
    · cases hj
    · obtain ⟨_, _, h⟩ := hr j hj
      exact h.2
  · rcases hLr with ⟨_, rfl⟩ | ⟨es, rs, h1, h2, h3⟩
    · exact ⟨by simp, fun t ht => by cases ht⟩
    · rw [h1] at hr
      obtain ⟨r1, r2⟩ := reach_row ht h2 hr
      refine ⟨r1, fun q hq => ?_⟩
      obtain ⟨j, hj, rfl⟩ := List.getElem_of_mem hq
      exact (h3 j (by omega) hj).1 (r2 _ (List.getElem_mem _))
  · rcases hLr with ⟨h1, rfl⟩ | ⟨es, rs, h1, h2, h3⟩
    · rw [h1]; simp [Rows.uptoBulk]
    · rw [h1, Rows.uptoBulk]
      have := bulk_sum (f := bk) h2 fun i h1 h2 => (h3 i h1 h2).2
      omega
theorem one_slice {t e : TypeId} (ht : P.underlying t = some (.slice e)) {n : Nat} {cs : List Value} {x : DataW H × List MemPlace} (h : DataW.trod enc P w 0 (fun _ => true) true n t cs = some x) : ∃ v, cs = [v] := by
  rcases DataW.trod_slice ht h with ⟨hcs, _⟩ | ⟨a, len, cap, elems, rest, m, _, hcs, _⟩
  · exact ⟨_, hcs⟩
  · exact ⟨_, hcs⟩
theorem Opens.sl {E : ElemK α} {ok fit : α → Prop} {bk : α → Nat} {t e : TypeId} (hE : Opens enc P w E ok fit bk e) (hC : P.cellsOf e = E.sz) (ht : P.underlying t = some (.slice e)) :
    Opens enc P w E.sl (fun L => L.length ≤ 9223372036854775807 ∧ ∀ q ∈ L, ok q) (fun L => L.length * P.bytesOf e ≤ reachBytes ∧ ∀ q ∈ L, fit q) (fun L => (L.map bk).sum + 1) t := fun n cs x h => by
  obtain ⟨v, rfl⟩ := one_slice ht h
  obtain ⟨L, ⟨h1, h2⟩, h3, h4⟩ := hE.row hC ht h
  exact ⟨L, ⟨⟨v, rfl, h1⟩, h2⟩, h3, h4⟩
/-- what the program's table says of a struct of a string and another thing -/
structure TwoTypes (P : Program) (tR t2 c2 : Nat) : Prop where
  st : ∃ fs, P.underlying tR = some (.struct fs) ∧ (fs[0]?).map (fun f => (f.type, f.offset)) = some (9, 0) ∧ (fs[1]?).map (fun f => (f.type, f.offset)) = some (t2, 1)
  c : P.cellsOf tR = 1 + c2
  d : P.cellsOf t2 = c2
theorem bulk_two {ds : List (DataW H)} {d0 d1 : DataW H} (h0 : ds[0]? = some d0) (h1 : ds[1]? = some d1) : Rows.uptoBulk d0 + Rows.uptoBulk d1 ≤ Rows.uptoBulkAll ds := by
  rcases ds with _ | ⟨a, _ | ⟨b, r⟩⟩ <;> simp at h0 h1
  subst h0 h1
  simp only [Rows.uptoBulkAll]
  omega
theorem Opens.pair {F : ElemK β} {ok fit : β → Prop} {bk : β → Nat} {tR t2 : TypeId} (hE : Opens enc P w F ok fit bk t2) (hR : TwoTypes P tR t2 F.sz) (u9 : P.underlying 9 = some .string) (c9 : P.cellsOf 9 = 1) :
    Opens enc P w (EStr.two F) (fun a => a.1.size ≤ 9223372036854775807 ∧ ok a.2) (fun a => fit a.2) (fun a => a.1.size + bk a.2 + 1) tR := fun n cs x hx => by
  obtain ⟨⟨fs, he, f0, f1⟩, cR, c2⟩ := hR
  obtain ⟨xs, m', rfl, hxa, hlen, hxl, hf⟩ := DataW.trod_struct he hx
  rw [cR] at hlen
  obtain ⟨a, r, rfl⟩ : ∃ a r, cs = a :: r := by
    cases cs with
    | nil => simp at hlen; omega
    | cons a r => exact ⟨a, r, rfl⟩
  have hr : r.length = F.sz := by rw [List.length_cons] at hlen; omega
  obtain ⟨x0, y0, _, g0⟩ := field_at2 hxl hf f0 c9
  obtain ⟨x1, y1, z1, g1⟩ := field_at2 hxl hf f1 c2
  obtain ⟨s, e0, q0, w0⟩ := DataW.trod_string u9 g0
  have g1' : DataW.trod enc P w 0 (fun _ => true) true m' t2 r = some x1 := by
    have e : ((a :: r).drop 1).take F.sz = r := by rw [List.drop_succ_cons, List.drop_zero, List.take_of_length_le (by omega)]
    rw [e] at g1; exact g1
  obtain ⟨b, ⟨h1, h2⟩, h3, h4⟩ := hE m' r x1 g1'
  simp at e0
  subst e0
  refine ⟨(s, b), ⟨⟨[.string s], r, rfl, rfl, h1⟩, w0, h2⟩, fun hr => h3 (by rw [hxa] at hr; exact reach_field he y1 z1 hr), ?_⟩
  subst q0
  rw [hxa, Rows.uptoBulk]
  have h6 := bulk_two (ds := xs.map (·.1)) (by rw [List.getElem?_map, y0]; rfl) (by rw [List.getElem?_map, y1]; rfl)
  have k3 : Rows.uptoBulk (DataW.lit (H := H) (.string s.data.toList)) = s.size + 1 := by rw [Rows.uptoBulk, Array.length_toList]; rfl
  dsimp only at h6
  rw [k3] at h6
  show s.size + bk b + 1 ≤ _
  omega
theorem opens_val {tV tL tK : TypeId} (hT : VTypes P tV tL tK) (bV : P.bytesOf tV = 88) (b9 : P.bytesOf 9 = 16) : Opens enc P w EVal VT.wf VT.fit VT.bulk tV := fun n cs x hx => by
  obtain ⟨t, ⟨h1, h2⟩, h3, h4⟩ := value_of2 hT bV b9 n cs x hx
  exact ⟨t, ⟨VCell.low _ _ h1, h2⟩, h3, h4⟩
/-- the three lists of a matrix -/
structure MatTypes (P : Program) (tM tA tI tE : TypeId) : Prop where
  st : ∃ fs, P.underlying tM = some (.struct fs) ∧ (fs[0]?).map (fun f => (f.type, f.offset)) = some (tA, 0) ∧ (fs[1]?).map (fun f => (f.type, f.offset)) = some (tI, 1) ∧ (fs[2]?).map (fun f => (f.type, f.offset)) = some (tE, 2)
  c : P.cellsOf tM = 3
def bkVar (q : VR) : Nat := q.1.size + q.2.bulk + 1
def bkVars (L : List VR) : Nat := (L.map bkVar).sum + 1
def bkAx (q : AX) : Nat := q.1.size + ((q.2.map VT.bulk).sum + 1) + 1
end
end Go.Proofs.YtomecnncighkgaaGreatDoor
/- What the rows of chapter 16 share: arguments opened; what the listed variables' readings say of the memory; a world in which all are laid. -/
namespace Go.Proofs.YtomecnncighkgaaGreatDoor
open Go.ChangeShapes Go.WideShapes Go.ChangeAt Go.RowKit Go.Lib

theorem own : ownKnob Tryz.prog.godebug = none := by kernel_rfl
theorem laidOut : laidOutB Tryz.prog = true := by kernel_rfl
theorem vtypes : VTypes Tryz.prog 46 43 44 :=
  ⟨⟨_, Tryz.underlying46, by kernel_rfl, by kernel_rfl, by kernel_rfl, by kernel_rfl, by kernel_rfl, by kernel_rfl⟩, ⟨by kernel_rfl, by kernel_rfl, by kernel_rfl, by kernel_rfl, by kernel_rfl, by kernel_rfl⟩, Tryz.underlying3, Tryz.underlying4, Tryz.underlying9, Tryz.underlying43, Tryz.underlying44⟩
theorem vartwo : TwoTypes Tryz.prog 48 46 6 := ⟨⟨_, Tryz.underlying48, by kernel_rfl, by kernel_rfl⟩, by kernel_rfl, by kernel_rfl⟩
theorem axtwo : TwoTypes Tryz.prog 50 43 1 := ⟨⟨_, Tryz.underlying50, by kernel_rfl, by kernel_rfl⟩, by kernel_rfl, by kernel_rfl⟩
theorem mattypes : MatTypes Tryz.prog 25 22 23 23 := ⟨⟨_, Tryz.underlying25, by kernel_rfl, by kernel_rfl, by kernel_rfl⟩, by kernel_rfl⟩
section
variable {H : Type} {enc : TypeId × Value → H} {W : World}
theorem o_val : Opens enc Tryz.prog W EVal VT.wf VT.fit VT.bulk 46 := opens_val vtypes (by kernel_rfl) (by kernel_rfl)
theorem o_var : Opens enc Tryz.prog W EVar (fun q => q.1.size ≤ 9223372036854775807 ∧ q.2.wf) (fun q => q.2.fit) bkVar 48 := o_val.pair vartwo Tryz.underlying9 (by kernel_rfl)
theorem o_vars : Opens enc Tryz.prog W EVars wfVars (fun L => L.length * Tryz.prog.bytesOf 48 ≤ reachBytes ∧ ∀ q ∈ L, q.2.fit) bkVars 36 := o_var.sl (by kernel_rfl) Tryz.underlying36
theorem o_ax : Opens enc Tryz.prog W EAx (fun q => q.1.size ≤ 9223372036854775807 ∧ q.2.length ≤ 9223372036854775807 ∧ ∀ t ∈ q.2, t.wf) (fun q => q.2.length * Tryz.prog.bytesOf 46 ≤ reachBytes ∧ ∀ t ∈ q.2, t.fit) bkAx 50 := (o_val.sl (by kernel_rfl) Tryz.underlying43).pair axtwo Tryz.underlying9 (by kernel_rfl)
set_option maxRecDepth 100000 in
theorem open_vars {base : Nat} {v : Value} {d : DataW H} {p : List MemPlace} (hv : Value.okWide Tryz.prog W .any base 36 v) (h : DataW.Trod enc Tryz.prog W 0 (fun _ => true) true 36 v d p) :
    ∃ L : List VR, EVar.Row (fun b => b < W.heap.size) W L v ∧ wfVars L ∧ bkVars L ≤ Rows.uptoBulk d ∧ (Reach Tryz.prog 36 d → L.length ≤ 281474976710656) := by
  obtain ⟨ao, len, cap, rfl⟩ := okWide_slice Tryz.underlying36 hv
  obtain ⟨fuel, hf⟩ := h
  obtain ⟨L, ⟨h1, h2, h3⟩, h4, h5⟩ := (o_var (W := W)).row (by kernel_rfl) Tryz.underlying36 (show DataW.trod enc Tryz.prog W 0 (fun _ => true) true fuel 36 [.slice ao len cap] = some (d, p) from hf)
  refine ⟨L, h1, ⟨h2, h3⟩, h5, fun hr => ?_⟩
  have h6 := (h4 hr).1
  have h7 := reachBytes_lt
  have h8 : Tryz.prog.bytesOf 48 = 104 := by kernel_rfl
  rw [h8] at h6
  omega
end
theorem bk_mem {α : Type} {f : α → Nat} : ∀ {L : List α} {a : α}, a ∈ L → f a ≤ (L.map f).sum
  | b :: L, a, h => by
    rw [List.map_cons, List.sum_cons]
    rcases List.mem_cons.1 h with rfl | h
    · omega
    · have := bk_mem (f := f) h; omega
theorem bk_len {α : Type} {f : α → Nat} (h : ∀ a, 1 ≤ f a) : ∀ (L : List α), L.length ≤ (L.map f).sum
  | [] => by simp
  | a :: L => by
    rw [List.map_cons, List.sum_cons, List.length_cons]
    have := bk_len h L
    have := h a
    omega
theorem vars_len {L : List VR} (h : bkVars L ≤ 1048576) : L.length ≤ 1048576 := by
  have := bk_len (f := bkVar) (fun a => by unfold bkVar; omega) L
  unfold bkVars at h
  omega
/-- few things of small bulk: as the names ask -/
theorem suf_ok {L : List VR} (hw : wfVars L) (hb : bkVars L ≤ 1048576) (hn : L.length ≤ 300) : SufOk L where
  n := hn
  nm := fun x hx => by
    have h1 := bk_mem (f := bkVar) hx
    unfold bkVars at hb
    unfold bkVar at h1 hb
    omega
  wf := fun x hx => (hw.2 x hx).2
  lit := fun x hx hv => by
    have h1 := bk_mem (f := bkVar) hx
    have h2 := lit_upto hv
    unfold bkVars at hb
    unfold bkVar at h1 hb
    omega
theorem u8_nat {z : Int} (h : (Lit.int .u8 z).wf = true) : ∃ k : Nat, z = (k : Nat) ∧ k ≤ 255 := by
  have h1 : 0 ≤ z ∧ z ≤ 255 := by
    unfold Lit.wf at h
    simpa [IntKind.min, IntKind.max, IntKind.bits, IntKind.signed] using h
  exact ⟨z.toNat, by omega, by omega⟩
theorem pow_of_reads {w : World} (h : VarReads Tryz.prog w "internal/strconv.uint64pow10" Rows.laid_internal_strconv_uint64pow10) : Pow w := by
  obtain ⟨g, t, cs, fuel, p, hg, hty, hvar, hd⟩ := h
  have hn : Tryz.prog.globalNamed "internal/strconv.uint64pow10" = some 1 := by kernel_rfl
  have hy : (Tryz.prog.globals[1]?).map (·.type) = some 169 := by kernel_rfl
  obtain rfl := Option.some.inj (hn.symm.trans hg)
  obtain rfl := Option.some.inj (hy.symm.trans hty)
  unfold Pow TabIs
  rw [hvar, ← cells_of_tab (zs := pow10Tab) (k := .u64) Tryz.underlying169 (by kernel_rfl) (by kernel_rfl) (by kernel_rfl) hd]
theorem bulk_part {H : Type} {d : DataW H} {l : List (DataW H)} (h : d ∈ l) : Rows.uptoBulk d ≤ Rows.uptoBulkAll l := by
  induction l with
  | nil => cases h
  | cons x r ih =>
    simp only [Rows.uptoBulkAll]
    rcases List.mem_cons.1 h with rfl | e
    · omega
    · have := ih e; omega
theorem bulk_arg {H : Type} {ds : List (DataW H)} (hk : Rows.uptoSmall H ds = true) {d : DataW H} (hd : d ∈ ds) : Rows.uptoBulk d ≤ 1048576 := by
  have h2 := bulk_part hd
  have h3 : Rows.uptoBulkAll ds ≤ 1048576 := of_decide_eq_true hk
  omega
/-- the bound on what is read bounds the literal -/
theorem small_lit {H : Type} {ds : List (DataW H)} (hk : Rows.uptoSmall H ds = true) {d : DataW H} (hd : d ∈ ds) {t : VT} (hr : t.bulk ≤ Rows.uptoBulk d) (hv : validF t = 0) : (litF t).length ≤ 100000000000 := by
  have h1 := lit_upto hv
  have h2 := bulk_part hd
  have h3 : Rows.uptoBulkAll ds ≤ 1048576 := of_decide_eq_true hk
  omega

/-- the settled world, the listed variables laid -/
noncomputable abbrev laidWorld (os : Os) : World := World.laidAll Tryz.prog os Rows.matrixExpandsRow.laid
theorem laid_met (os : Os) (args : Array Value) : laidMet Tryz.prog Rows.matrixExpandsRow.laid ((laidWorld os).forCall (fun _ _ => 0) ⟨#[], args, []⟩).memory :=
  laidMet_laidAll args (by kernel_rfl) (by kernel_rfl)
end Go.Proofs.YtomecnncighkgaaGreatDoor
