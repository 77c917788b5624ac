/- The comparison and the sort in Cycle of package graph; maps keyed by numbers. -/
import Derived.Test.YtfegmmafcopbpaaGreatDoorGw8
import Derived.Test.YtfegmmafcopbpaaGreatDoorShelfs
namespace Go.Proofs.YtfegmmafcopbpaaGreatDoor
open Go.RowKit

set_option maxRecDepth 100000 in
set_option maxHeartbeats 1600000 in
theorem ccmp_any (nv : Value) (ns : List Nd) (x y cb : Nat) (hx : x < ns.length) (hy : y < ns.length) (hsz : ∀ x ∈ ns, x.id.size ≤ 9223372036854775807) (W : World) (hN : NdAt W nv ns) (hc : W.cell? ⟨cb, 0, none⟩ = some nv) :
    Calls Tryz.prog 40 #[intV x, intV y, .pointer (some ⟨cb, 0, none⟩)] W fun e w' => e = .returned (.int .i64 (natC (idA (grO ns) x) (idA (grO ns) y))) ∧ Up W w' := by
  obtain ⟨nao, ncap, rfl⟩ := hN.sl.form
  obtain ⟨b, off, rfl, hb, hcx, _, _⟩ := hN.at2 hx
  obtain ⟨_, hcy, _, _⟩ := hN.lit hy
  have HX := Lib.hid (grO_id ns hx)
  have HY := Lib.hid (grO_id ns hy)
  have hxi : ((x : Nat) : Int) < (ns.length : Int) := by omega
  have hyi : ((y : Nat) : Int) < (ns.length : Int) := by omega
  have CM := fun W => Lib.hid (compare_any (ns.getD x default).id (ns.getD y default).id (hsz _ (by rw [List.getD, List.getElem?_eq_getElem hx]; exact List.getElem_mem hx)) (hsz _ (by rw [List.getD, List.getElem?_eq_getElem hy]; exact List.getElem_mem hy)) W)
  generalize (ns.getD x default).id = sx at *
  generalize (ns.getD y default).id = sy at *
  clear hN hsz
  go_enter Tryz.func40, Tryz.ntmps40
  go_upto_region 1 with fail
  go_still_tail 10, (by kernel_rfl)
  change wpList _ _ _ _ _ (World.drew _)
  go_wp2_with fail
  refine (CM _).out.mono ?_
  rintro e w5 ⟨rfl, hu⟩
  have HU := Lib.hid ((Up.refl W).drew.trans hu)
  have HE : Hid (natC (idA (grO ns) x) (idA (grO ns) y) = natC sx.data.toList sy.data.toList) := by unfold Hid; rw [HX.out, HY.out]
  clear hu CM
  go_wp2_with fail
  go_ret
  exact ⟨by rw [HE.out]; rfl, HU.out⟩

theorem cycEnters : ∀ args w, (callFunc 40 args).run Tryz.prog w = .ok (.enter 40 args) w := enters_of Tryz.func40 (by kernel_rfl) rfl

open Go.Sort Go.Lib in
theorem below_sortN {α : Type} [Inhabited α] {B : Nat} (enc : α → Value) (w : World) (blk off n : Nat) (d : Array α) (os : Array Obj) (h : B ≤ blk) (hw : B ≤ w.heap.size) : RowKit.Below B w (sortWorld enc w blk off n d os) := by
  unfold sortWorld
  refine (below_ahd w n).trans ((below_putRow enc (Sort.ahead w n) blk off d h).trans ?_)
  exact ⟨rfl, rfl, rfl, by simp [grow], fun k hk => by
    have : k < (putRow enc (Sort.ahead w n) blk off d).heap.size := by rw [size_putRow]; exact Nat.lt_of_lt_of_le hk hw
    show ((putRow enc (Sort.ahead w n) blk off d).heap ++ os)[k]? = _
    rw [Array.getElem?_append_left this]⟩

open Go.Sort Go.Lib in
/-- numbers of nodes, sorted by their names -/
theorem csort_any (nv : Value) (ns : List Nd) (cb blk cap base : Nat) (l : List Nat) (hl : ∀ k ∈ l, k < ns.length) (hll : l.length ≤ 1000000) (hne : l ≠ []) (hsz : ∀ x ∈ ns, x.id.size ≤ 9223372036854775807) (w0 w : World) (hN : NdAt w0 nv ns) (hc : w0.cell? ⟨cb, 0, none⟩ = some nv) (hcl : cb < w0.heap.size)
    (hbw : RowKit.Below w0.heap.size w0 w) (hb : w0.heap.size ≤ base) (h : IRow w base (.slice (some ⟨blk, 0, none⟩) l.length cap) l) :
    Calls Tryz.prog 39 #[.slice (some ⟨blk, 0, none⟩) l.length cap, .func (.func 40) #[] #[.pointer (some ⟨cb, 0, none⟩)]] w fun e w' =>
      e = .returned (.tuple #[]) ∧ ∃ l' : List Nat, l'.Perm l ∧ l'.Pairwise (fun a b => natC (idA (grO ns) a) (idA (grO ns) b) ≤ 0) ∧ IntsAt w' (.slice (some ⟨blk, 0, none⟩) l.length cap) l' ∧ RowKit.Below base w w' := by
  have hblkb : base ≤ blk ∧ blk < w.heap.size := h.lt blk rfl
  have hrow : ∃ cur, w.heap[blk]? = some (.cells cur 3 (0, 0)) ∧ l.length ≤ cap ∧ cur.size = cap ∧ cur.toList.take l.length = l.map intV := by
    rcases h.2 with ⟨h1, _⟩ | ⟨g, cp, cur, h1, hb, hg, hn, hm, hs, ht⟩
    · cases h1
    · injection h1 with e1 e2 e3
      injection e1 with e1
      injection e1 with e1
      subst e1 e3
      exact ⟨cur, hg, hn, by simpa using hs, by simpa using ht⟩
  obtain ⟨cur, hg, hn, hs, ht⟩ := hrow
  have hpos : 0 < ns.length := by
    cases l with
    | nil => exact absurd rfl hne
    | cons a l => have := hl a (by simp); omega
  haveI : Inhabited { k : Nat // k < ns.length } := ⟨⟨0, hpos⟩⟩
  let enc : { k : Nat // k < ns.length } → Value := fun x => intV x.1
  let cf : { k : Nat // k < ns.length } → { k : Nat // k < ns.length } → Int := fun x y => natC (idA (grO ns) x.1) (idA (grO ns) y.1)
  have hd : ∃ d : List { k : Nat // k < ns.length }, d.map (·.1) = l := by
    clear h ht hn hne hll
    induction l with
    | nil => exact ⟨[], rfl⟩
    | cons a l ih =>
      obtain ⟨d, hd⟩ := ih (fun k hk => hl k (by simp [hk]))
      exact ⟨⟨a, hl a (by simp)⟩ :: d, by simp [hd]⟩
  obtain ⟨d, hd⟩ := hd
  have hdl : d.length = l.length := by rw [← hd, List.length_map]
  have hH : Holds enc w blk 0 d.toArray := by
    intro j hj
    have hj' : j < d.length := by simpa using hj
    have hjl : j < l.length := by omega
    have e1 : d.toArray[j]! = d[j] := by rw [getElem!_pos _ j hj]; simp
    have e3 : d[j].1 = l[j] := by
      have : (d.map (·.1))[j]? = l[j]? := by rw [hd]
      rw [List.getElem?_map, List.getElem?_eq_getElem hj', List.getElem?_eq_getElem hjl] at this
      simpa using this
    have e2 : cur[j]? = some (intV l[j]) := by
      have := congrArg (·[j]?) ht
      simp only [List.getElem?_take, if_pos hjl, List.getElem?_map, List.getElem?_eq_getElem hjl, Option.map_some] at this
      simpa using this
    rw [e1, Nat.zero_add]
    refine ⟨?_, free_of_blk hg j⟩
    rw [cell_of_blk hg, e2]
    show some (intV l[j]) = some (intV d[j].1)
    rw [e3]
  have hswo : SWO (ltOf cf) := ⟨fun x => nat_swo.irrefl _, fun x y z => nat_swo.trans _ _ _, fun x y z => nat_swo.ntrans _ _ _⟩
  have hcmp : CmpLays1 Tryz.prog 40 #[.pointer (some ⟨cb, 0, none⟩)] enc cf blk 0 d.toArray.size w := fun m os dk _ x y => by
    have hbs := hbw.trans (below_sortN (B := w0.heap.size) enc w blk 0 m dk os (by omega) hbw.size)
    exact (ccmp_any nv ns x.1 y.1 cb x.2 y.2 hsz _ (hN.below hbs) ((hbs.cell (p := ⟨cb, 0, none⟩) hcl).trans hc)).mono (by
      rintro e w' ⟨he, hu⟩
      exact ⟨he, hu.grown⟩)
  have := Tryz.slices_SortFunc_f39 enc (fun _ => rfl) cf hswo 40 #[.pointer (some ⟨cb, 0, none⟩)] blk 0 cap d.toArray w cycEnters hcmp hH hblkb.2 (by simp; omega)
  simp only [List.size_toArray, hdl] at this
  refine this.mono ?_
  rintro e w2 ⟨he, d', n, os, hp, hso, hw⟩
  obtain ⟨hz, _, hperm⟩ := hp
  have hz' : d'.size = l.length := by rw [hz]; simp [hdl]
  have hho : Holds enc w2 blk 0 d' := SW.holds ⟨n, os, hw⟩ hblkb.2 hH (by rw [hz])
  refine ⟨he, d'.toList.map (·.1), ?_, ?_, ?_, ?_⟩
  · have hpm : d'.toList.Perm d := by
      have e1 : d.toArray.extract 0 l.length = d.toArray := by
        have h9 : d.toArray.extract 0 d.toArray.size = d.toArray := Array.extract_size
        rw [List.size_toArray, hdl] at h9
        exact h9
      have e2 : d'.extract 0 l.length = d' := by rw [← hz', Array.extract_size]
      rw [e1, e2] at hperm
      exact hperm
    rw [← hd]
    exact hpm.map _
  · rw [List.pairwise_map, List.pairwise_iff_getElem]
    intro i j hi hj hij
    have hi' : i < d'.size := by simpa using hi
    have hj' : j < d'.size := by simpa using hj
    have := hso i j (Nat.zero_le _) hij (by omega)
    unfold ltOf at this
    rw [decide_eq_false_iff_not, getElem!_pos d' i hi', getElem!_pos d' j hj'] at this
    have h2 := natC_po.anti (idA (grO ns) d'[i].1) (idA (grO ns) d'[j].1)
    rw [Array.getElem_toList, Array.getElem_toList]
    show natC (idA (grO ns) d'[i].1) (idA (grO ns) d'[j].1) ≤ 0
    have h3 : ¬ natC (idA (grO ns) d'[j].1) (idA (grO ns) d'[i].1) < 0 := this
    omega
  · refine .inr ⟨blk, 0, cap, by simp [hz'], ?_, fun k hk j u hu => ?_⟩
    · rw [hw]
      exact Nat.lt_of_lt_of_le hblkb.2 (below_sortN (B := 0) enc w blk 0 n d' os (Nat.zero_le _) (Nat.zero_le _)).size
    · have hk' : k < d'.size := by simpa using hk
      have := (hho k hk').1
      rw [getElem!_pos d' k hk'] at this
      cases j with
      | zero =>
        simp only [List.getElem?_cons_zero, Option.some.injEq] at hu
        subst hu
        have e : (d'.toList.map (·.1))[k] = d'[k].1 := by simp
        rw [e]
        simpa using this
      | succ j => simp at hu
  · rw [hw]
    exact below_sortN enc w blk 0 n d' os hblkb.1 (by omega)
end Go.Proofs.YtfegmmafcopbpaaGreatDoor
