/- A region that draws its order, holds loads, and ends with operations that undo what the loads read: these wait for every load. -/
import Derived.Deep.RegionHeld
import Derived.StillTail
import Derived.Great.BuildSlice
import Derived.Test.YtomecnncighkgaaGreatDoorVa1
import Derived.Test.YtomecnncighkgaaGreatDoorVa2
import Derived.OwnWalk
import Derived.Sort.Grow
import Derived.Deep.Draws
import Derived.RangeFuncCalls
import Derived.OwnWalkIn
import Derived.OrdersIn
namespace Go.Proofs.YtomecnncighkgaaGreatDoor

section
variable {P : Program} {ops : Array Oper} {Q : Exit → Act → World → Prop} {md : Region.Mode} {S : World → Prop} {z : Nat}

/-- whatever order is picked; behind every operation below z the condition S holds -/
def wpAnyZ (P : Program) (md : Region.Mode) (ops : Array Oper) (Q : Exit → Act → World → Prop) (S : World → Prop) (z : Nat) : Nat → Array Bool → Act → World → Prop
  | 0, listed, a, w => Region.ready md ops listed = [] ∧ Q .normal a w
  | n + 1, listed, a, w => (Region.ready md ops listed = [] → Q .normal a w) ∧
    ∀ i ∈ Region.ready md ops listed, wpOp P ops Q i (fun a' w' => (i < z → S w') ∧ wpAnyZ P md ops Q S z n (listed.setIfInBounds i true) a' w') a w
theorem wpAny_of_Z : ∀ (n : Nat) (listed : Array Bool) (a : Act) (w : World), wpAnyZ P md ops Q S z n listed a w → wpAny P md ops Q n listed a w
  | 0, _, _, _, h => h
  | n + 1, _, _, _, h => ⟨h.1, fun i hi => wpOp_mono (fun a' w' h' => wpAny_of_Z n _ a' w' h'.2) (h.2 i hi)⟩

/-- what is not listed and waited for is not ready -/
theorem not_ready_waits {i j : Nat} {listed : Array Bool} (hw : Region.waitsFor md ops j i = true) (hi : listed.getD i true = false) : j ∉ Region.ready md ops listed := fun hj => by
  obtain ⟨_, oj, hoj, hall⟩ := mem_ready.1 hj
  obtain ⟨oj', hoj', e, he, hb, hon⟩ := Region.waitsFor_spec hw
  have : oj' = oj := Option.some.inj (hoj'.symm.trans hoj)
  subst this
  have h1 := hall e he hb
  rw [hon, getD_both hi] at h1
  cases h1

/-- an operation below z that every operation from z on waits for may be taken first -/
theorem wpAnyZ_first {i : Nat} {oi : Oper} {v : Value} (hi : ops[i]? = some oi) (hsel : ∀ (j : Nat) (o : Oper) cs b, ops[j]? = some o → o.op ≠ .select cs b)
    (hQ : ∀ c a w, Q (.panic c) (a.put oi.dst v) w → Q (.panic c) a w) (hz : ∀ j, z ≤ j → j < ops.size → Region.waitsFor md ops j i = true) :
    ∀ (n : Nat) (listed : Array Bool) (a : Act) (w : World),
      (∀ j oj, ops[j]? = some oj → j ≠ i → listed.getD j true = false → (∀ e ∈ oj.after, Region.binds md e = true → e.on ≠ i) → oi.apart ops oj = true) →
      i ∈ Region.ready md ops listed → YieldsIf P ops S oi v a → S w →
      wpAnyZ P md ops Q S z n (listed.setIfInBounds i true) (a.put oi.dst v) w → wpAnyZ P md ops Q S z (n + 1) listed a w
  | n, listed, a, w, hfree, hr, hy, hS, H => by
    refine ⟨fun h => (by rw [h] at hr; cases hr), fun j hj => ?_⟩
    by_cases hji : j = i
    · subst hji; exact hy.wpOp hi hS ⟨fun _ => hS, H⟩
    · cases n with
      | zero =>
        have := ready_mono hj hji
        rw [H.1] at this
        cases this
      | succ n =>
        have h1 := H.2 j (ready_mono hj hji)
        obtain ⟨hjun, oj, hoj, hall⟩ := mem_ready.1 hj
        have hiun := (mem_ready.1 hr).1
        have hjz : j < z := Nat.lt_of_not_le fun h => not_ready_waits (hz j h (Array.getElem?_eq_some_iff.1 hoj).1) hiun hj
        have hnot : ∀ e ∈ oj.after, Region.binds md e = true → e.on ≠ i := fun e he hb heq => by
          have h2 := hall e he hb
          rw [heq, getD_both hiun] at h2
          cases h2
        have h2 := wpOp_putIf hoj (hfree j oj hoj hji hjun hnot) (fun cs b => hsel i oi cs b hi) (fun cs b => hsel j oj cs b hoj) hQ hy h1
        have hfree' : ∀ k ok, ops[k]? = some ok → k ≠ i → (listed.setIfInBounds j true).getD k true = false →
            (∀ e ∈ ok.after, Region.binds md e = true → e.on ≠ i) → oi.apart ops ok = true := fun k ok hk hki hun hno => by
          refine hfree k ok hk hki ?_ hno
          by_cases hjk : j = k
          · subst hjk; exact hjun
          · rw [getD_set_ne true hjk] at hun; exact hun
        refine wpOp_mono (fun a' w' h3 => ⟨fun _ => h3.2.1 hjz, wpAnyZ_first hi hsel hQ hz n (listed.setIfInBounds j true) a' w' hfree' (ready_mono hr (Ne.symm hji)) h3.1 (h3.2.1 hjz) ?_⟩) h2
        rw [Array.setIfInBounds_comm _ _ hji]
        exact h3.2.2

/-- every operation from z on waits for number i -/
def zWaits (md : Region.Mode) (ops : Array Oper) (z i : Nat) : Bool := (List.range ops.size).all fun j => decide (j < z) || Region.waitsFor md ops j i
theorem zWaits_spec {i : Nat} (h : zWaits md ops z i = true) (j : Nat) (hj : z ≤ j) (hs : j < ops.size) : Region.waitsFor md ops j i = true := by
  have := List.all_eq_true.1 h j (List.mem_range.2 hs)
  rw [decide_eq_false (by omega), Bool.false_or] at this
  exact this
theorem wpAnyZ_take {i : Nat} {oi : Oper} {v : Value} {n : Nat} {listed : Array Bool} {a : Act} {w : World} (hi : ops[i]? = some oi)
    (hs : Region.noSelect ops = true) (hf : Region.free md ops listed i = true) (hr : (Region.ready md ops listed).contains i = true) (hz : zWaits md ops z i = true)
    (hQ : ∀ c a w, Q (.panic c) (a.put oi.dst v) w → Q (.panic c) a w) (hy : YieldsIf P ops S oi v a) (hS : S w)
    (h : wpAnyZ P md ops Q S z n (listed.setIfInBounds i true) (a.put oi.dst v) w) : wpAnyZ P md ops Q S z (n + 1) listed a w :=
  wpAnyZ_first hi (Region.noSelect_spec hs) hQ (zWaits_spec hz) n listed a w (Region.free_spec hi hf) (by simpa using hr) hy hS h
/-- one operation alone may come up -/
theorem wpAnyZ_one {i : Nat} {o : Oper} {n : Nat} {listed : Array Bool} {a : Act} {w : World} (hr : Region.ready md ops listed = [i]) (ho : ops[i]? = some o)
    (h : ∀ K' : Act → World → Prop, Shut (∀ a w, (i < z → S w) → ((i < z → S w) → wpAnyZ P md ops Q S z n (listed.setIfInBounds i true) a w) → K' a w) → if Region.wanted o (yielded ops a.tmps) = true then Oper.wp P o a w K' Q else K' (a.put o.dst undef) w) :
    wpAnyZ P md ops Q S z (n + 1) listed a w :=
  ⟨fun h0 => (by rw [hr] at h0; cases h0), fun j hj => by
    rw [hr] at hj
    rw [List.mem_singleton.1 hj]
    exact wpOp_step ho (fun K' hK => h K' (fun a w hS hW => hK a w ⟨hS, hW hS⟩))⟩
theorem wpAnyZ_done {listed : Array Bool} {a : Act} {w : World} (hr : Region.ready md ops listed = []) (h : Q .normal a w) : ∀ n, wpAnyZ P md ops Q S z n listed a w
  | 0 => ⟨hr, h⟩
  | _ + 1 => ⟨fun _ => h, by rw [hr]; simp⟩
theorem wp_region_Z {id : Nat} {a : Act} {w : World} (z : Nat) (hm : P.follows .mixedOrders = true) (hS : S w.drew)
    (h : S w.drew → wpAnyZ P .any ops Q S z ops.size (Array.replicate ops.size false) a w.drew) : (Code.region id ops true).wp P Q a w :=
  wp_region_any hm (wpAny_of_Z _ _ _ _ (h hS))
end
end Go.Proofs.YtomecnncighkgaaGreatDoor
/- The laws of Zreg with the operation read off a list: the elaborator finds it by itself. -/
namespace Go.Proofs.YtomecnncighkgaaGreatDoor

section
variable {P : Program} {md : Region.Mode} {ops : Array Oper} {Q : Exit → Act → World → Prop} {S : World → Prop} {z : Nat}
theorem at_list {i : Nat} {o : Oper} (h : ops.toList[i]? = some o) : ops[i]? = some o := by rw [← Array.getElem?_toList]; exact h
theorem wpAnyZ_takeL {i : Nat} {oi : Oper} {v : Value} {n : Nat} {listed : Array Bool} {a : Act} {w : World} (hi : ops.toList[i]? = some oi)
    (hs : Region.noSelect ops = true) (hf : Region.free md ops listed i = true) (hr : (Region.ready md ops listed).contains i = true) (hz : zWaits md ops z i = true)
    (hQ : ∀ c a w, Q (.panic c) (a.put oi.dst v) w → Q (.panic c) a w) (hy : YieldsIf P ops S oi v a) (hS : S w)
    (h : wpAnyZ P md ops Q S z n (listed.setIfInBounds i true) (a.put oi.dst v) w) : wpAnyZ P md ops Q S z (n + 1) listed a w :=
  wpAnyZ_take (at_list hi) hs hf hr hz hQ hy hS h
theorem wpAnyZ_oneL {i : Nat} {o : Oper} {n : Nat} {listed : Array Bool} {a : Act} {w : World} (hr : Region.ready md ops listed = [i]) (ho : ops.toList[i]? = some o)
    (h : ∀ K' : Act → World → Prop, Shut (∀ a w, (i < z → S w) → ((i < z → S w) → wpAnyZ P md ops Q S z n (listed.setIfInBounds i true) a w) → K' a w) → if Region.wanted o (yielded ops a.tmps) = true then Oper.wp P o a w K' Q else K' (a.put o.dst undef) w) :
    wpAnyZ P md ops Q S z (n + 1) listed a w := wpAnyZ_one hr (at_list ho) h
end
end Go.Proofs.YtomecnncighkgaaGreatDoor
/- A slice literal of one thing that lies in several cells: one operation; its value is not reckoned. -/
namespace Go.Proofs.YtomecnncighkgaaGreatDoor

theorem fill_one {s n : Nat} (v : Value) (cells init : Array Value) (hc : v.cells = cells) (hs : cells.size = s) (hp : 0 < s) (hn : init.size = s) (hn1 : n = s) :
    Instr.fill (fun i => some (i * n, n)) init [(0, v)] = some cells := by
  subst hn1
  have h := Great.fill_whole (s := n) hp [v] init (by intro u hu; rw [List.mem_singleton.1 hu, hc, hs]) (by simp [hn])
  have e : (([v].zipIdx 0).map fun x => (x.2, x.1)) = [(0, v)] := rfl
  rw [e] at h
  rw [h]
  simp [hc]
section
variable {P : Program} {o : Oper} {a : Act} {w : World} {K : Act → World → Prop} {Q : Exit → Act → World → Prop}
theorem wp_build1 (t e : TypeId) (x : Operand) (ho : o.op = .buildSlice t 1 #[(0, x)]) (cells : Array Value) (ie : TypeInfo) (z : Value)
    (hu : P.underlying t = some (.slice e)) (hie : P.info? e = some ie) (hz : ie.zero = some z) (s : Nat) (hsz : ie.size = s) (hsmall : s ≤ 1000) (hpos : 0 < s)
    (hx : (a.eval x).cells = cells) (hcs : cells.size = s)
    (h : K (a.put o.dst (.slice (some ⟨w.heap.size, 0, none⟩) 1 1)) (w.alloc (.cells cells e))) : o.wp P a w K Q := by
  refine wp_buildSlice t e 1 #[(0, x)] ho cells ie z hu hie hz (by rw [hsz]; omega) (by rw [hsz]; omega) ?_ h
  have e : (#[(0, x)].map fun (i, x) => (i, a.eval x)).toList = [(0, a.eval x)] := by simp
  rw [e]
  refine fill_one (a.eval x) cells _ hx hcs hpos ?_ hsz
  simp [hsz]
end
theorem wpList_build1 {P : Program} {ops : Array Oper} {rest : List Oper} {o : Oper} {a : Act} {w : World} {Q : Exit → Act → World → Prop} (hg : o.guard = none) (t e : TypeId) (x : Operand) (ho : o.op = .buildSlice t 1 #[(0, x)]) (cells : Array Value) (ie : TypeInfo) (z : Value)
    (hu : P.underlying t = some (.slice e)) (hie : P.info? e = some ie) (hz : ie.zero = some z) (s : Nat) (hsz : ie.size = s) (hsmall : s ≤ 1000) (hpos : 0 < s)
    (hx : (a.eval x).cells = cells) (hcs : cells.size = s)
    (h : wpList P ops Q rest (a.put o.dst (.slice (some ⟨w.heap.size, 0, none⟩) 1 1)) (w.alloc (.cells cells e))) : wpList P ops Q (o :: rest) a w :=
  wpList_plain hg fun _ hK => wp_build1 t e x ho cells ie z hu hie hz s hsz hsmall hpos hx hcs (hK _ _ h)
/-- a struct of two things -/
theorem wpList_build2 {P : Program} {ops : Array Oper} {rest : List Oper} {o : Oper} {a : Act} {w : World} {Q : Exit → Act → World → Prop} (hg : o.guard = none) (t : TypeId) (x y : Operand) (ho : o.op = .build t #[(0, x), (1, y)])
    (vx vy : Value) (hx : a.eval x = vx) (hy : a.eval y = vy) (cells : Array Value) (hf : P.built t [(0, vx), (1, vy)] = some cells)
    (h : wpList P ops Q rest (a.put o.dst (.agg cells)) w) : wpList P ops Q (o :: rest) a w := by
  refine wpList_buildTo hg t #[(0, x), (1, y)] ho o.dst rfl cells ?_ h
  have e : (#[(0, x), (1, y)].map fun (i, x) => (i, a.eval x)).toList = [(0, a.eval x), (1, a.eval y)] := by simp
  rw [e, hx, hy]
  exact hf
/-- a struct is what comes back -/
theorem results_row1 {P : Program} {fn : Func} {p : Tmp} {ty : TypeId} (h : fn.results = #[.cell p ty]) (tmps : Array Value) (w : World) (g : Nat) (t : TypeId) (cs : Array Value) (fr : Nat × Nat) (d : TypeDesc)
    (hp : tmps.getD p undef = .pointer (some ⟨g, 0, none⟩)) (hg : w.heap[g]? = some (.cells cs t fr))
    (hu : P.underlying ty = some d) (hd : (match d with | .struct _ | .array _ _ => true | _ => false) = true) (hi : (P.info? ty).map (·.size) = some cs.size) :
    (results fn tmps).run P w = .ok (.agg cs) w := by
  have hp' : tmps[p]?.getD undef = .pointer (some ⟨g, 0, none⟩) := by simpa using hp
  simp [results, h, hp', asAddr, run_loadVar_row w g t ty cs fr d hg hu hd hi]
end Go.Proofs.YtomecnncighkgaaGreatDoor
/- Append of one thing to a list that is the call's own: at an operation, and in a plain region. -/
namespace Go.Proofs.YtomecnncighkgaaGreatDoor
open Go.RowKit

/-- what is known of the slice behind the append -/
def Pushed (v : Value) (n H : Nat) (v' : Value) : Prop := ∃ g cap, v' = .slice (some ⟨g, 0, none⟩) (n + 1) cap ∧ (v.ownBlock = some g ∨ g = H)
section
variable {P : Program} {α : Type} {E : ElemK α} {B : Nat → Prop} {o : Oper} {a : Act} {w : World} {K : Act → World → Prop} {Q : Exit → Act → World → Prop}
theorem wp_own_push (s x : Operand) (t : TypeId) (ho : o.op = .call { callee := .builtin .append, args := #[s, x], argTypes := #[t, t] })
    (base : Nat) (e : TypeId) (i : TypeInfo) (z : Value) (bytes : Nat) (ht : P.underlying t = some (.slice e)) (hi : P.info? e = some i) (hz : i.zero = some z) (hsize : i.size = E.sz) (hby : i.bytes = bytes) (hzs : z.cells.size = E.sz)
    (L : List α) (v : Value) (hs : a.eval s = v) (hO : E.Own e base B w L v) (y : α) (cs : List Value) (hR : E.R (fun b => B b ∧ v.ownBlock ≠ some b) w y cs)
    (blk : Nat) (fr : Nat × Nat) (hblk : w.heap[blk]? = some (.cells cs.toArray e fr)) (hx : a.eval x = .slice (some ⟨blk, 0, none⟩) 1 1)
    (hm : L.length + 1 ≤ maxLen) (hbytes : (L.length + 1) * bytes ≤ 140737488355328) (hbase : base ≤ w.heap.size)
    (h : ∀ v' w', E.Own e base B w' (L ++ [y]) v' → w.grownBy w' v.ownBlock → Pushed v L.length w.heap.size v' → K (a.put o.dst v') w') : o.wp P a w K Q := by
  obtain ⟨css, hcl, hcR, hrow⟩ := hO
  have hlen := E.len hR
  refine wp_append_lies w s x t ho base e i z E.sz bytes ht hi hz hsize hby hzs E.pos v L.length css.flatten hs hrow ⟨blk, 0, none⟩ 1 1 cs hx (by rw [hlen, Nat.one_mul]) (World.news_of_block (cs := cs.toArray) hblk) (E.one hR) (by decide) hm hbytes hbase _ rfl ?_
  intro g cap w' hown hgrow hat _
  exact h _ _ (ElemK.Own.push hcl hcR hR hgrow hat hown) hgrow ⟨g, cap, rfl, hat⟩
theorem wpList_own_push {ops : Array Oper} {rest : List Oper} (hgd : o.guard = none) (s x : Operand) (t : TypeId) (ho : o.op = .call { callee := .builtin .append, args := #[s, x], argTypes := #[t, t] })
    (base : Nat) (e : TypeId) (i : TypeInfo) (z : Value) (bytes : Nat) (ht : P.underlying t = some (.slice e)) (hi : P.info? e = some i) (hz : i.zero = some z) (hsize : i.size = E.sz) (hby : i.bytes = bytes) (hzs : z.cells.size = E.sz)
    (L : List α) (v : Value) (hs : a.eval s = v) (hO : E.Own e base B w L v) (y : α) (cs : List Value) (hR : E.R (fun b => B b ∧ v.ownBlock ≠ some b) w y cs)
    (blk : Nat) (fr : Nat × Nat) (hblk : w.heap[blk]? = some (.cells cs.toArray e fr)) (hx : a.eval x = .slice (some ⟨blk, 0, none⟩) 1 1)
    (hm : L.length + 1 ≤ maxLen) (hbytes : (L.length + 1) * bytes ≤ 140737488355328) (hbase : base ≤ w.heap.size)
    (h : ∀ v' w', E.Own e base B w' (L ++ [y]) v' → w.grownBy w' v.ownBlock → Pushed v L.length w.heap.size v' → wpList P ops Q rest (a.put o.dst v') w') : wpList P ops Q (o :: rest) a w :=
  wpList_plain hgd fun _ hK => wp_own_push s x t ho base e i z bytes ht hi hz hsize hby hzs L v hs hO y cs hR blk fr hblk hx hm hbytes hbase fun v' w' h1 h2 h3 => hK _ _ (h v' w' h1 h2 h3)
end
theorem below_grown {B : Nat} {w w1 : World} {row : Option Nat} (hg : w.grownBy w1 row) (hB : B ≤ w.heap.size) (hr : ∀ q, row = some q → B ≤ q) : Below B w w1 :=
  ⟨hg.os, hg.tape, hg.output, hg.size, fun k hk => hg.block k (by omega) (fun e => by have := hr k e.symm; omega)⟩
/-- what lies elsewhere stays, and stays apart -/
theorem ElemK.Row.pushed {α : Type} {E : ElemK α} {B : Nat → Prop} {w w1 : World} {L : List α} {u v v' : Value} {n : Nat} (h : E.Row (fun b => B b ∧ v.ownBlock ≠ some b) w L u) (hg : w.grownBy w1 v.ownBlock) (hp : Pushed v n w.heap.size v') :
    E.Row (fun b => B b ∧ v'.ownBlock ≠ some b) w1 L u := by
  obtain ⟨g, cap, rfl, hat⟩ := hp
  refine (h.lt.keep hg.size fun b hb hlt => hg.block b hlt (fun e => hb.1.2 e.symm)).mono fun b hb => ⟨hb.1.1, fun e => ?_⟩
  have e : g = b := Option.some.inj e
  subst e
  rcases hat with h1 | h1
  · exact hb.1.2 h1
  · exact absurd hb.2 (by omega)
theorem ElemK.R.pushed {α : Type} {E : ElemK α} {B : Nat → Prop} {w w1 : World} {y : α} {cs : List Value} {v v' : Value} {n : Nat} (h : E.R (fun b => B b ∧ v.ownBlock ≠ some b) w y cs) (hg : w.grownBy w1 v.ownBlock) (hp : Pushed v n w.heap.size v') :
    E.R (fun b => B b ∧ v'.ownBlock ≠ some b) w1 y cs := by
  obtain ⟨g, cap, rfl, hat⟩ := hp
  refine E.mono (E.keep (E.lt h) hg.size fun b hb hlt => hg.block b hlt (fun e => hb.1.2 e.symm)) fun b hb => ⟨hb.1.1, fun e => ?_⟩
  have e : g = b := Option.some.inj e
  subst e
  rcases hat with h1 | h1
  · exact hb.1.2 h1
  · exact absurd hb.2 (by omega)
theorem Pushed.form {v v' : Value} {n H : Nat} (h : Pushed v n H v') : ∃ g cap, v' = .slice (some ⟨g, 0, none⟩) (n + 1) cap := by
  obtain ⟨g, cap, e, _⟩ := h
  exact ⟨g, cap, e⟩
theorem ElemK.Own.sep {α : Type} {E : ElemK α} {e : TypeId} {base : Nat} {B : Nat → Prop} {w : World} {L : List α} {v : Value} (h : E.Own e base B w L v) : ∀ b, w.heap.size ≤ b → v.ownBlock ≠ some b := fun b hb hv => by
  have := (h.low b hv).2; omega
end Go.Proofs.YtomecnncighkgaaGreatDoor
/- Plain laws: natural order in the steps in which the walks take it. No program in sight. -/
namespace Go.Proofs.YtomecnncighkgaaGreatDoor
open Go.RowKit

def runN (l : Bs) : Nat := (l.takeWhile digF).length
theorem run_take : ∀ l : Bs, l.takeWhile digF = l.take (runN l) ∧ l.dropWhile digF = l.drop (runN l)
  | [] => ⟨rfl, rfl⟩
  | c :: r => by
    unfold runN
    obtain ⟨h1, h2⟩ := run_take r
    unfold runN at h1 h2
    by_cases hc : digF c = true
    · rw [List.takeWhile_cons, List.dropWhile_cons, if_pos hc, if_pos hc, List.length_cons, List.take_succ_cons, List.drop_succ_cons, ← h2, ← h1]
      exact ⟨rfl, rfl⟩
    · rw [List.takeWhile_cons, List.dropWhile_cons, if_neg hc, if_neg hc]
      exact ⟨rfl, rfl⟩
theorem runN_le (l : Bs) : runN l ≤ l.length := by
  have := congrArg List.length (run_take l).1
  rw [List.length_take] at this
  unfold runN at *
  omega
theorem run_stop : ∀ (l : Bs) (n : Nat), n ≤ l.length → (∀ j, j < n → digF (l.getD j 0) = true) → (n = l.length ∨ digF (l.getD n 0) = false) → runN l = n
  | [], n, h, _, _ => by simp at h; subst h; rfl
  | c :: r, 0, _, _, hs => by
    rcases hs with h | h
    · simp at h
    · unfold runN
      rw [List.takeWhile_cons, if_neg (by simpa using h)]
      rfl
  | c :: r, n + 1, h, hd, hs => by
    have hc : digF c = true := by simpa using hd 0 (by omega)
    have := run_stop r n (by simpa using h) (fun j hj => by simpa using hd (j + 1) (by omega)) (by simpa using hs)
    unfold runN at *
    rw [List.takeWhile_cons, if_pos hc, List.length_cons, this]
theorem runN_zero {c : UInt8} {r : Bs} : (0 < runN (c :: r)) ↔ digF c = true := by
  unfold runN
  rw [List.takeWhile_cons]
  by_cases hc : digF c = true
  · simp [hc]
  · simp [hc]
theorem runN_head {l : Bs} (hl : l ≠ []) : (0 < runN l) ↔ digF (l.getD 0 0) = true := by
  cases l with
  | nil => exact absurd rfl hl
  | cons c r => exact runN_zero

theorem nat_dig {a b : Bs} (h0 : 0 < runN a) (h1 : 0 < runN b) : natC a b = if numF (a.take (runN a)) (b.take (runN b)) = 0 then natC (a.drop (runN a)) (b.drop (runN b)) else numF (a.take (runN a)) (b.take (runN b)) := by
  cases a with
  | nil => simp [runN] at h0
  | cons c a =>
    cases b with
    | nil => simp [runN] at h1
    | cons d b =>
      rw [natC_dig (runN_zero.1 h0) (runN_zero.1 h1), (run_take (c :: a)).1, (run_take (d :: b)).1, (run_take (c :: a)).2, (run_take (d :: b)).2]
theorem nat_one {a b : Bs} (ha : a ≠ []) (hb : b ≠ []) (h : ¬ (0 < runN a ∧ 0 < runN b)) : natC a b = if cmpN (a.getD 0 0).toNat (b.getD 0 0).toNat = 0 then natC (a.drop 1) (b.drop 1) else cmpN (a.getD 0 0).toNat (b.getD 0 0).toNat := by
  cases a with
  | nil => exact absurd rfl ha
  | cons c a =>
    cases b with
    | nil => exact absurd rfl hb
    | cons d b =>
      rw [natC_byte (fun k => h ⟨runN_zero.2 k.1, runN_zero.2 k.2⟩)]
      show (if c = d then natC a b else cmpN c.toNat d.toNat) = if cmpN c.toNat d.toNat = 0 then natC a b else cmpN c.toNat d.toNat
      by_cases e : c = d
      · subst e; rw [if_pos rfl, if_pos (cmpN_po.refl _)]
      · rw [if_neg e, if_neg fun h0 => e (UInt8.toNat_inj.1 (cmpN_eq h0))]

theorem cmpN_rng (x y : Nat) : cmpN x y = -1 ∨ cmpN x y = 0 ∨ cmpN x y = 1 := cmpN_po.rng x y
theorem strip_stop : ∀ (l : Bs) (n : Nat), n ≤ l.length → (∀ j, j < n → l.getD j 0 = 48) → (n = l.length ∨ l.getD n 0 ≠ 48) → stripF l = l.drop n
  | [], n, h, _, _ => by simp at h; subst h; rfl
  | c :: r, 0, _, _, hs => by
    rcases hs with h | h
    · simp at h
    · unfold stripF
      rw [List.dropWhile_cons, if_neg (by simpa using h)]
      rfl
  | c :: r, n + 1, h, hd, hs => by
    have hc : c = 48 := by simpa using hd 0 (by omega)
    have := strip_stop r n (by simpa using h) (fun j hj => by simpa using hd (j + 1) (by omega)) (by simpa using hs)
    unfold stripF at *
    rw [List.dropWhile_cons, if_pos (by simpa using hc), List.drop_succ_cons, this]
theorem strip_le (l : Bs) : (stripF l).length ≤ l.length := (strip_split l).2
end Go.Proofs.YtomecnncighkgaaGreatDoor
/- Worlds that have only grown: nothing old has turned, draws only add up. -/
namespace Go.Proofs.YtomecnncighkgaaGreatDoor
open Go.RowKit

structure Up (w w' : World) : Prop where
  b : Below w.heap.size w w'
  d : w.drawn ≤ w'.drawn
theorem Up.refl (w : World) : Up w w := ⟨Below.refl _ _, Nat.le_refl _⟩
theorem Up.trans {w w1 w2 : World} (h : Up w w1) (k : Up w1 w2) : Up w w2 := ⟨h.b.trans (k.b.mono h.b.size), Nat.le_trans h.d k.d⟩
theorem Up.drew {w w1 : World} (h : Up w w1) : Up w w1.drew := ⟨h.b.drew, Nat.le_succ_of_le h.d⟩
theorem Up.alloc {w w1 : World} (h : Up w w1) (o : Obj) : Up w (w1.alloc o) := ⟨h.b.alloc h.b.size o, h.d⟩
theorem Up.grown {w w1 : World} (h : Up w w1) : ∃ q os, w1 = Go.Sort.grow (w.drewN q) os := by
  obtain ⟨⟨h1, h2, h3, h4, h5⟩, h6⟩ := h
  refine ⟨w1.drawn - w.drawn, w1.heap.extract w.heap.size w1.heap.size, ?_⟩
  have hh : w.heap ++ w1.heap.extract w.heap.size w1.heap.size = w1.heap := by
    apply Array.ext_getElem?
    intro k
    by_cases hk : k < w.heap.size
    · rw [Array.getElem?_append_left hk, ← h5 k hk]
    · rw [Array.getElem?_append_right (by omega), Array.getElem?_extract]
      by_cases hk2 : k < w1.heap.size
      · rw [if_pos (by omega)]
        congr 1
        omega
      · rw [if_neg (by omega), Array.getElem?_eq_none (by omega)]
  have hd : w.drawn + (w1.drawn - w.drawn) = w1.drawn := by omega
  cases w1 with
  | mk heap tape drawn os output =>
    cases w with
    | mk heap' tape' drawn' os' output' =>
      simp only at h1 h2 h3 hh hd
      subst h1 h2 h3
      simp only [Go.Sort.grow, World.drewN, hh, hd]
end Go.Proofs.YtomecnncighkgaaGreatDoor
/- A region that draws its order, inside a round of a range over a function: walked in the plain mode. -/
namespace Go.Proofs.YtomecnncighkgaaGreatDoor

/-- no way out but those of a program whose memory suffices -/
def Kin (Q : Exit → Act → World → Prop) (e : Exit) (a : Act) (w : World) : Prop := e ≠ .outgrown ∧ Q e a w
theorem kin_shut {Q : Exit → Act → World → Prop} : ¬ LetsOut (Kin Q) := fun ⟨_, _, h⟩ => h.1 rfl
theorem rowsIn_round {l n : Nat} {P : Program} {row : String} {args : Array Value} {w : World} {R : Value → World → Prop} (h : Rows P row args w R) : RowsIn (Fence.wide.inRound l) n P row args w R := fun c cs _ => by
  obtain ⟨v, w', h1, h2⟩ := h c cs
  exact ⟨v, w', h1, stepsIn_wide.2 h2⟩
theorem oper_round {P : Program} {o : Oper} {a : Act} {w : World} {K : Act → World → Prop} {Q : Exit → Act → World → Prop} (l n : Nat) (hd : ∀ c, o.op ≠ .defer c) (h : o.wp P a w K (Kin Q)) : o.wpIn (Fence.wide.inRound l) n P a w K Q := by
  refine ⟨fun _ _ => trivial, ?_⟩
  rw [Oper.semAt_plain _ _ _ hd]
  unfold Oper.wp at h
  generalize (execOp a.eval o).run P w = r at *
  cases r with
  | ok x w' =>
    cases x with
    | value v => exact h
    | skip => exact h
    | defer d => exact h
    | enter f args => exact ⟨fun hh => (by simp [Fence.wide] at hh), CallsIn.inRound l (callsIn_wide.2 (Calls.mono h fun e w'' he => by
        cases e with
        | returned v => exact he
        | panicked ch => exact he.2
        | outgrown => exact absurd he kin_shut))⟩
    | row r args => exact ⟨fun hh => (by simp [Fence.wide] at hh), rowsIn_round h⟩
    | _ => exact absurd h id
  | halt x w' =>
    cases x with
    | panic v => exact h.2
    | _ => exact absurd h id
def isDefer : Op → Bool
  | .defer _ => true
  | _ => false
def noDefer (ops : Array Oper) : Bool := ops.all fun o => !isDefer o.op
theorem noDefer_spec {ops : Array Oper} (h : noDefer ops = true) {j : Nat} {o : Oper} (ho : ops[j]? = some o) : ∀ c, o.op ≠ .defer c := fun c e => by
  have := Array.all_eq_true_iff_forall_mem.1 h o (Array.mem_of_getElem? ho)
  rw [e] at this
  simp [isDefer] at this
section
variable {P : Program} {ops : Array Oper} {Q : Exit → Act → World → Prop} {md : Region.Mode}
theorem wpOp_round {K : Act → World → Prop} {i : Nat} {a : Act} {w : World} (l n : Nat) (hd : noDefer ops = true) (h : wpOp P ops (Kin Q) i K a w) : wpOpIn (Fence.wide.inRound l) n P ops Q i K a w := by
  unfold wpOp at h
  unfold wpOpIn
  split
  · rename_i ho; simpa [ho] using h
  · rename_i o ho
    simp only [ho] at h
    split
    · rename_i hw
      rw [if_pos hw] at h
      rcases h with h | h
      · exact oper_round l n (noDefer_spec hd ho) h
      · exact absurd h.2 kin_shut
    · rename_i hw
      rw [if_neg hw] at h
      exact ⟨fun _ _ => trivial, h⟩
theorem wpAny_round (l n : Nat) (hd : noDefer ops = true) : ∀ (k : Nat) (listed : Array Bool) (a : Act) (w : World), wpAny P md ops (Kin Q) k listed a w → wpAnyIn (Fence.wide.inRound l) n P md ops Q k listed a w
  | 0, _, _, _, h => ⟨h.1, h.2.2⟩
  | k + 1, _, _, _, h => ⟨fun hr => (h.1 hr).2, fun i hi => wpOpIn_mono (fun a' w' h' => wpAny_round l n hd k _ a' w' h') (wpOp_round l n hd (h.2 i hi))⟩
theorem wp_region_Zround {S : World → Prop} {id l n : Nat} {a : Act} {w : World} (z : Nat) (hm : P.follows .mixedOrders = true) (hd : noDefer ops = true) (hS : S w.drew)
    (h : S w.drew → wpAnyZ P .any ops (Kin Q) S z ops.size (Array.replicate ops.size false) a w.drew) : (Code.region id ops true).wpIn (Fence.wide.inRound l) n P Q a w :=
  wpIn_region_any hm (wpAny_round l n hd _ _ _ _ (wpAny_of_Z _ _ _ _ (h hS)))
end

/-! ### a function that leaves with marks: its way out by a panic looks at the slots -/
/-- no way out by a panic -/
def Kq (Q : Exit → Act → World → Prop) (e : Exit) (a : Act) (w : World) : Prop := (∀ c, e ≠ .panic c) ∧ Q e a w
theorem oper_mono {P : Program} {o : Oper} {a : Act} {w : World} {K : Act → World → Prop} {Q : Exit → Act → World → Prop} (h : o.wp P a w K (Kq Q)) : o.wp P a w K Q := by
  unfold Oper.wp at h ⊢
  generalize (execOp a.eval o).run P w = r at *
  cases r with
  | ok x w' =>
    cases x with
    | value v => exact h
    | skip => exact h
    | defer d => exact h
    | enter f args => exact Calls.mono h (fun e w'' he => by
        cases e with
        | returned v => exact he
        | panicked ch => exact he.2
        | outgrown =>
          obtain ⟨a', w3, h3⟩ := he
          exact ⟨a', w3, h3.2⟩)
    | row r args => exact h
    | _ => exact absurd h id
  | halt x w' =>
    cases x with
    | panic v => exact h.2
    | _ => exact absurd h id
section
variable {P : Program} {ops : Array Oper} {Q : Exit → Act → World → Prop} {md : Region.Mode}
theorem wpOp_Kq {K : Act → World → Prop} {i : Nat} {a : Act} {w : World} (h : wpOp P ops (Kq Q) i K a w) : wpOp P ops Q i K a w := by
  unfold wpOp at h ⊢
  split
  · rename_i ho; simpa [ho] using h
  · rename_i o ho
    simp only [ho] at h
    split
    · rename_i hw
      rw [if_pos hw] at h
      rcases h with h | ⟨h1, a', w3, h3⟩
      · exact .inl (oper_mono h)
      · exact .inr ⟨h1, a', w3, h3.2⟩
    · rename_i hw
      rw [if_neg hw] at h
      exact h
theorem wpAny_Kq : ∀ (k : Nat) (listed : Array Bool) (a : Act) (w : World), wpAny P md ops (Kq Q) k listed a w → wpAny P md ops Q k listed a w
  | 0, _, _, _, h => ⟨h.1, h.2.2⟩
  | k + 1, _, _, _, h => ⟨fun hr => (h.1 hr).2, fun i hi => wpOp_mono (fun a' w' h' => wpAny_Kq k _ a' w' h') (wpOp_Kq (h.2 i hi))⟩
theorem wp_region_Zq {S : World → Prop} {id : Nat} {a : Act} {w : World} (z : Nat) (hm : P.follows .mixedOrders = true) (hS : S w.drew)
    (h : S w.drew → wpAnyZ P .any ops (Kq Q) S z ops.size (Array.replicate ops.size false) a w.drew) : (Code.region id ops true).wp P Q a w :=
  wp_region_any hm (wpAny_Kq _ _ _ _ (wpAny_of_Z _ _ _ _ (h hS)))
end
end Go.Proofs.YtomecnncighkgaaGreatDoor
