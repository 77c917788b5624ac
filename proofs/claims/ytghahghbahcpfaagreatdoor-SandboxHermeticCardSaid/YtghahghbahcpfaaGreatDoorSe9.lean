/- Outputs sorted by slices.SortFunc; the walk over sandbox.sorted. -/
import Derived.Test.YtghahghbahcpfaaGreatDoorVs3
import Derived.Test.YtghahghbahcpfaaGreatDoorNw2
import Derived.Test.YtghahghbahcpfaaGreatDoorVshelf
namespace Go.Proofs.YtghahghbahcpfaaGreatDoor
open Go.RowKit

theorem addr0 (g j : Nat) : (⟨g, 0, none⟩ : Addr).add j = ⟨g, j, none⟩ := by unfold Addr.add; split <;> simp_all
theorem list_bang7 {l : List Value} {i : Nat} (h : i < l.length) : l[i]? = some l[i]! := by
  rw [getElem!_pos l i h]; exact List.getElem?_eq_getElem h
/-- an output whose name is as long as memory allows -/
structure O3 where
  o : OutM
  hn : o.name.size ≤ 1000000
instance : Inhabited O3 := ⟨⟨⟨ByteArray.empty, 0, 0⟩, by decide⟩⟩
def enc3 (c : O3) : List Value := [.string c.o.name, .int .u64 (c.o.dig : Nat), .int .i64 c.o.size]
def cf3 (x y : O3) : Int := natC x.o.name.data.toList y.o.name.data.toList
open Go.Sort in
theorem o3_swo : SWO (ltOf cf3) where
  irrefl x := nat_swo.irrefl x.o.name.data.toList
  trans x y z := nat_swo.trans x.o.name.data.toList y.o.name.data.toList z.o.name.data.toList
  ntrans x y z := nat_swo.ntrans x.o.name.data.toList y.o.name.data.toList z.o.name.data.toList
set_option maxRecDepth 100000 in
set_option maxHeartbeats 1600000 in
theorem ocmp_any (x y : O3) (w : World) : Calls Tryz.prog 96 #[.agg (enc3 x).toArray, .agg (enc3 y).toArray] w fun e w' => e = .returned (.int .i64 (cf3 x y)) ∧ Up w w' := by
  obtain ⟨⟨xn, xd, xs⟩, hx⟩ := x
  obtain ⟨⟨yn, yd, ys⟩, hy⟩ := y
  unfold enc3 cf3
  dsimp only at hx hy ⊢
  obtain ⟨W1, hW1⟩ : ∃ W, w.alloc (.cells #[.string xn, .int .u64 (xd : Nat), .int .i64 xs] tOut (0, 0)) = W := ⟨_, rfl⟩
  obtain ⟨W2, hW2⟩ : ∃ W, W1.alloc (.cells #[.string yn, .int .u64 (yd : Nat), .int .i64 ys] tOut (0, 0)) = W := ⟨_, rfl⟩
  have hs1 : W1.heap.size = w.heap.size + 1 := by rw [← hW1]; simp
  have hk1 : W2.heap[w.heap.size]? = some (.cells #[.string xn, .int .u64 (xd : Nat), .int .i64 xs] tOut (0, 0)) := by rw [← hW2]; exact (hp_old (by omega)).trans (by rw [← hW1]; exact hp_new rfl)
  have hk2 : W2.heap[w.heap.size + 1]? = some (.cells #[.string yn, .int .u64 (yd : Nat), .int .i64 ys] tOut (0, 0)) := by rw [← hW2]; exact hp_new (by omega)
  have HU : Hid (Up w W2) := by unfold Hid; rw [← hW2, ← hW1]; exact ((Up.refl w).alloc _).alloc _
  have c0 : W2.cell? ⟨w.heap.size, 0, none⟩ = some (.string xn) := cell_of_blk hk1 0
  have d0 : W2.cell? ⟨w.heap.size + 1, 0, none⟩ = some (.string yn) := cell_of_blk hk2 0
  have CM := Lib.hid (compare_any xn yn (by omega) (by omega) W2)
  clear hk1 hk2
  go_enter Tryz.func96, Tryz.ntmps96
  go_wp2_with fail
  refine CM.out.mono ?_
  rintro e w3 ⟨rfl, hu⟩
  have HU3 := Lib.hid (HU.out.trans hu)
  clear hu CM
  go_wp2_with fail
  go_ret
  exact ⟨rfl, HU3.out⟩
open Go.Sort Go.Lib Go.Shelf in
theorem o3_lays (blk off size : Nat) (w : World) : CmpLays Tryz.prog 96 #[] enc3 3 cf3 blk off size w := fun m os dk _ x y =>
  (ocmp_any x y _).mono (by
    rintro e w' ⟨he, hu⟩
    exact ⟨he, hu.grown⟩)
theorem ocmpEnters : ∀ args w, (callFunc 96 args).run Tryz.prog w = .ok (.enter 96 args) w := enters_of Tryz.func96 (by kernel_rfl) rfl
open Go.Sort Go.Lib in
theorem sort3_block (w : World) (blk off n : Nat) (d : Array O3) (os : Array Obj) (k : Nat) (hk : k < w.heap.size) (hne : k ≠ blk) : (sortWorldK enc3 3 w blk off n d os).heap[k]? = w.heap[k]? := by
  have h1 : k < (putRowK enc3 3 (Sort.ahead w n) blk off d).heap.size := by rw [size_putRowK]; exact hk
  show ((putRowK enc3 3 (Sort.ahead w n) blk off d).heap ++ os)[k]? = _
  rw [Array.getElem?_append_left h1]
  show (w.heap.modify blk _)[k]? = w.heap[k]?
  rw [Array.getElem?_modify, if_neg (by omega)]
open Go.Sort Go.Lib in
theorem sort3_size (w : World) (blk off n : Nat) (d : Array O3) (os : Array Obj) : w.heap.size ≤ (sortWorldK enc3 3 w blk off n d os).heap.size := by
  show w.heap.size ≤ ((putRowK enc3 3 (Sort.ahead w n) blk off d).heap ++ os).size
  rw [Array.size_append, size_putRowK]
  exact Nat.le_add_right _ _
open Go.Sort Go.Lib in
theorem below_sort3 {B : Nat} (w : World) (blk off n : Nat) (d : Array O3) (os : Array Obj) (h : B ≤ blk) (hw : B ≤ w.heap.size) : RowKit.Below B w (sortWorldK enc3 3 w blk off n d os) :=
  ⟨rfl, rfl, rfl, sort3_size w blk off n d os, fun k hk => sort3_block w blk off n d os k (by omega) (by omega)⟩
open Go.Sort Go.Lib in
set_option maxRecDepth 100000 in
theorem sorto_row (w0 w1 : World) (v : Value) (L : List OutM) (hl : L.length ≤ 1000000) (hsz : ∀ x ∈ L, x.name.size ≤ 1000000)
    (h : EOut.Own tOut w0.heap.size noB w1 L v) (hb : RowKit.Below w0.heap.size w0 w1) (hn : (L.map nmO).Nodup) :
    Calls Tryz.prog 95 #[v, .func (.func 96) #[] #[]] w1 fun e w2 => e = .returned (.tuple #[]) ∧ EOut.Row (fun b => w0.heap.size ≤ b) w2 (sortN nmO L) v ∧ RowKit.Below w0.heap.size w0 w2 := by
  obtain ⟨css, hcl, hcR, hrow⟩ := h
  rcases hrow.2 with ⟨rfl, h0⟩ | ⟨g, cap, cur, rfl, hg, hh, hncap, _⟩
  · have hL : L = [] := List.length_eq_zero_iff.1 h0
    subst hL
    refine (Tryz.slices_SortFunc_q_none none 0 _ w1).mono ?_
    rintro e w2 ⟨he, rfl⟩
    exact ⟨he, .nil, hb⟩
  · have hgw : g < w1.heap.size := (Array.getElem?_eq_some_iff.1 hh).1
    obtain ⟨C, hCl, hC⟩ := list_pick (R := fun k (c : O3) => ∃ (h1 : k < L.length), c.o = L[k]) L.length (fun k hk => ⟨⟨L[k], hsz _ (List.getElem_mem hk)⟩, hk, rfl⟩)
    have hCo : C.map (·.o) = L := List.ext_getElem (by rw [List.length_map, hCl]) fun k h1 h2 => by
      rw [List.getElem_map]
      exact (hC k (by simpa using h1)).2
    have hlen : ∀ c ∈ css, c.length = 3 := fun c hc => by
      obtain ⟨k, hk, rfl⟩ := List.getElem_of_mem hc
      exact EOut.len (hcR k (by omega) hk)
    have hcells := hrow.cells (g := g) rfl
    have hH : HoldsK enc3 3 w1 g 0 C.toArray := by
      intro t ht
      rw [size_flatK, List.size_toArray] at ht
      rw [get_flatK _ _ _ _ (by rw [List.size_toArray]; exact ht)]
      have hk : t / 3 < C.length := by omega
      obtain ⟨h1, hc1⟩ := hC _ hk
      have h2 : t / 3 < css.length := by omega
      have e3 : C.toArray[t / 3]! = C[t / 3] := by rw [getElem!_pos C.toArray (t / 3) (by rw [List.size_toArray]; exact hk)]; simp
      have hcs : css[t / 3] = enc3 C[t / 3] := by
        have hq : css[t / 3] = [.string L[t / 3].name, .int .u64 (L[t / 3].dig : Nat), .int .i64 L[t / 3].size] := hcR (t / 3) h1 h2
        rw [hq, enc3, hc1]
      have e4 : css[t / 3][t % 3]? = some ((enc3 C[t / 3])[t % 3]!) := by rw [hcs]; exact list_bang7 (l := enc3 C[t / 3]) (Nat.mod_lt _ (by decide))
      have := hcells _ _ (flatten_at css (t / 3) h2 (t % 3) _ hlen e4)
      rw [addr0, show t / 3 * 3 + t % 3 = 0 + t by omega] at this
      rw [e3]
      exact ⟨this, free_of_blk hh _⟩
    have hd : C.toArray.size = L.length := by simp [hCl]
    have := Tryz.slices_SortFunc_q enc3 (fun _ => rfl) (fun x v hv => by
      simp only [enc3, List.mem_cons, List.not_mem_nil, or_false] at hv
      rcases hv with rfl | rfl | rfl <;> rfl) cf3 o3_swo 96 #[] g 0 cap C.toArray w1 ocmpEnters (o3_lays _ _ _ _) hH hgw (by rw [hd]; omega)
    rw [hd] at this
    refine this.mono ?_
    rintro e w2 ⟨he, d', n, os, hp, hs, hw⟩
    obtain ⟨hz, _, hperm⟩ := hp
    rw [hd] at hz
    have hho : HoldsK enc3 3 w2 g 0 d' := by rw [hw]; exact holdsK_sortWorldK enc3 3 w1 g 0 n _ d' os hgw hH (by rw [hz, hd])
    have hpm : d'.toList.Perm C := by
      have e1 : C.toArray.extract 0 L.length = C.toArray := by rw [← hd, Array.extract_size]
      have e2 : d'.extract 0 L.length = d' := by rw [← hz, Array.extract_size]
      rw [e1, e2] at hperm
      exact hperm
    have hms : d'.toList.map (·.o) = sortN nmO L := by
      refine sortedN hn (by have := hpm.map (·.o); rwa [hCo] at this) fun i j hij hj hi => ?_
      have hj' : j < d'.size := by simpa using hj
      have h1 := hs i j (Nat.zero_le _) hij (by rw [← hz]; exact hj')
      unfold ltOf cf3 at h1
      rw [decide_eq_false_iff_not, getElem!_pos d' j hj', getElem!_pos d' i (by omega)] at h1
      rw [List.getElem_map, List.getElem_map, Array.getElem_toList, Array.getElem_toList]
      exact h1
    refine ⟨he, ?_, by rw [hw]; exact hb.trans (below_sort3 w1 g 0 n d' os hg hb.size)⟩
    have hlen2 : (sortN nmO L).length = L.length := (sortN_perm (nm := nmO) L).length_eq
    have hsz2 : d'.size = (sortN nmO L).length := by rw [← hms]; simp
    rw [← hlen2]
    refine .inr ⟨g, 0, cap, rfl, hg, ?_, by rw [hlen2]; exact hncap, fun k hk => ?_⟩
    · rw [hw]; exact Nat.lt_of_lt_of_le hgw (sort3_size w1 g 0 n d' os)
    · have hk' : k < d'.size := by omega
      have e5 : (sortN nmO L)[k] = d'[k].o := by
        have : (d'.toList.map (·.o))[k]'(by simpa using hk') = d'[k].o := by simp
        rw [← this]
        congr 1
        exact hms.symm
      refine ⟨enc3 d'[k], fun j u hu => ?_, by rw [e5]; rfl⟩
      have hj : j < 3 := (List.getElem?_eq_some_iff.1 hu).1
      have ht : k * 3 + j < d'.size * 3 := by omega
      have h1 := (hho (k * 3 + j) (by rw [size_flatK]; exact ht)).1
      rw [get_flatK _ _ _ _ ht, show (k * 3 + j) / 3 = k by omega, show (k * 3 + j) % 3 = j by omega, getElem!_pos d' k hk'] at h1
      have h5 := list_bang7 (l := enc3 d'[k]) (i := j) hj
      rw [hu] at h5
      rw [← Option.some.inj h5, ← Nat.add_assoc] at h1
      exact h1
set_option maxRecDepth 100000 in
theorem osorted_any (L : List OutM) (v : Value) (B : Nat → Prop) (hl : L.length ≤ 1000000) (hsz : ∀ x ∈ L, x.name.size ≤ 1000000) (hn : (L.map nmO).Nodup) (w : World) (h : EOut.Row B w L v) :
    Calls Tryz.prog 63 #[v] w fun e w' => ∃ r, e = .returned r ∧ EOut.Row (fun b => w.heap.size ≤ b) w' (sortN nmO L) r ∧ Below w.heap.size w w' := by
  have CL := Lib.hid (oclone_any L v B hl w h)
  have SO := fun w1 r h hb => Lib.hid (sorto_row w w1 r L hl hsz h hb hn)
  obtain ⟨ao, cap, rfl⟩ := h.form
  clear h
  go_enter Tryz.func63, Tryz.ntmps63
  go_wp2_with fail
  refine CL.out.mono ?_
  rintro e w1 ⟨r, rfl, hown, hb⟩
  have S2 := SO w1 r hown hb
  clear hown hb CL SO
  go_wp2_with fail
  refine S2.out.mono ?_
  rintro e w2 ⟨rfl, hr, hb⟩
  have HR := Lib.hid hr
  have HB := Lib.hid hb
  clear hr hb S2
  go_wp2_with fail
  go_ret
  exact ⟨_, rfl, HR.out, HB.out⟩
end Go.Proofs.YtghahghbahcpfaaGreatDoor
