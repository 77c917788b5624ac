/- Lists of variables: slices.Clone, the comparison, slices.SortFunc. -/
import Derived.Test.YtomecnncighkgaaGreatDoorVa5
import Derived.Test.YtomecnncighkgaaGreatDoorNw2
import Derived.Test.YtomecnncighkgaaGreatDoorVshelf
import Derived.Shelf.SlSortCmp.NoneTotal
namespace Go.Proofs.YtomecnncighkgaaGreatDoor
open Go.RowKit Go.Deep

set_option maxRecDepth 100000 in
set_option maxHeartbeats 1600000 in
theorem vclonel_any (L : List VR) (v : Value) (B : Nat → Prop) (hl : L.length * 104 ≤ 140737488355328) (w : World) (h : EVar.Row B w L v) :
    Calls Tryz.prog 59 #[v] w fun e w' => ∃ r, e = .returned r ∧ EVar.Own 48 w.heap.size (fun b => B b ∧ b < w.heap.size) w' L r ∧ Below w.heap.size w w' := by
  obtain ⟨ao, cap, rfl⟩ := h.form
  obtain ⟨iV, hiV, hzV, hnV, hyV⟩ := Tryz.vinfoVar'
  have HI := Lib.hid hiV
  have qq : ∀ (w : World) (a : Option Addr) (n c n' c' : Nat), (binOp .eql 36 (.slice a n c) (.slice none n' c')).run Tryz.prog w = .ok (.bool a.isNone) w := fun w a n c n' c' => Lib.run_eql_slice_nil w _ _ a n c n' c' Tryz.underlying36
  go_enter Tryz.func59, Tryz.ntmps59
  cases ao with
  | none =>
    have h0 : L = [] := by
      rcases h with ⟨_, _, _, e⟩ | ⟨b, off, c, e, _⟩
      · exact e
      · injection e with e1; cases e1
    subst h0
    clear h
    go_wp2_with fail
    go_ret
    exact ⟨_, rfl, .nil, Below.refl _ _⟩
  | some ad =>
    by_cases h0 : L = []
    · subst h0
      clear h
      obtain ⟨b, off, sp⟩ := ad
      go_wp2_with (at_builtin; refine wpList_append2 rfl _ _ 36 rfl w.heap.size 48 iV (.agg #[.string ByteArray.empty, .int .i64 0, .bool false, .int .i64 0, .string ByteArray.empty, .slice none 0 0, .slice none 0 0]) 7 104 Tryz.underlying36 ⟨HI.out, hzV, hnV, hyV⟩ rfl (by decide) _ 0 [] rfl (World.ownsRow_made w #[] 0 (Nat.le_refl _) (Nat.zero_le _) rfl) ⟨b, off, sp⟩ 0 cap [] rfl rfl (fun j u hj => by simp at hj) rfl (by decide) (by decide) (by simp) ?_)
      intro v' w3 hown hgrow hwh
      obtain ⟨ao', cap', rfl⟩ := ownsRow_form hown
      have HOWN := Lib.hid hown
      have HBG := Lib.hid (((Below.refl w.heap.size w).alloc (Nat.le_refl _) (.cells #[] 48)).grown hgrow (by simp) (by intro k hk; simp [Value.ownBlock] at hk; omega))
      clear hown hgrow hwh
      go_wp2_with fail
      go_ret
      exact ⟨_, rfl, ⟨[], rfl, fun k h => absurd h (Nat.not_lt_zero k), HOWN.out⟩, HBG.out⟩
    · obtain ⟨bl, off, e⟩ : ∃ bl off, ad = ⟨bl, off, none⟩ := by
        obtain ⟨bl, off, cs0, e, _⟩ := h.at (k := 0) (List.length_pos_iff.2 h0)
        injection e with e
        exact ⟨bl, off, e⟩
      subst e
      obtain ⟨css, hcl, hcR, hcell, hclen, hone⟩ := h.flat
      have HFL := Lib.hid (show ∀ (j : Nat) (u : Value), css.flatten[j]? = some u → (w.alloc (.cells #[] 48)).cell? ((⟨bl, off, none⟩ : Addr).add j) = some u from fun j u hj => by
        rw [show (⟨bl, off, none⟩ : Addr).add j = ⟨bl, off + j, none⟩ from by unfold Addr.add; split <;> simp_all]
        exact Lib.cell?_alloc_some _ (hcell j u hj))
      have HCL := Lib.hid hcl
      have HCR : Hid (∀ w' : World, w.heap.size ≤ w'.heap.size → (∀ b, b < w.heap.size → w'.heap[b]? = w.heap[b]?) → ∀ (g : Nat), w.heap.size ≤ g → ∀ (k : Nat) (h1 : k < L.length) (h2 : k < css.length), EVar.R (fun b => (B b ∧ b < w.heap.size) ∧ some g ≠ some b) w' L[k] css[k]) := fun w' hs hb g hg k h1 h2 =>
        EVar.mono (EVar.keep (EVar.lt (hcR k h1 h2)) hs fun b _ hb2 => hb b hb2) fun b hb => ⟨hb, fun e => by have := Option.some.inj e; omega⟩
      have HLEN : Hid (css.flatten.length = L.length * 7) := hclen
      have HONE : Hid (css.flatten.all (·.oneCell') = true) := List.all_eq_true.2 hone
      clear hcl hcR hcell hclen hone h h0
      go_wp2_with (at_builtin; refine wpList_append2 rfl _ _ 36 rfl w.heap.size 48 iV (.agg #[.string ByteArray.empty, .int .i64 0, .bool false, .int .i64 0, .string ByteArray.empty, .slice none 0 0, .slice none 0 0]) 7 104 Tryz.underlying36 ⟨HI.out, hzV, hnV, hyV⟩ rfl (by decide) _ 0 [] rfl (World.ownsRow_made w #[] 0 (Nat.le_refl _) (Nat.zero_le _) rfl) ⟨bl, off, none⟩ L.length cap css.flatten rfl HLEN.out HFL.out HONE.out (by unfold maxLen; omega) (by omega) (by simp) ?_)
      intro v' w3 hown hgrow hwh
      obtain ⟨ao', cap', rfl⟩ := ownsRow_form hown
      have HOWN := Lib.hid hown
      have hbg := ((Below.refl w.heap.size w).alloc (Nat.le_refl _) (.cells #[] 48)).grown hgrow (by simp) (by intro k hk; simp [Value.ownBlock] at hk; omega)
      have HBG := Lib.hid hbg
      clear hown hgrow hwh hbg
      go_wp2_with fail
      go_ret
      have ho := HOWN.out
      have hO : EVar.Own 48 w.heap.size (fun b => B b ∧ b < w.heap.size) w3 L (.slice ao' L.length cap') := by
        refine ⟨css, HCL.out, fun k h1 h2 => ?_, ho⟩
        cases hq : (Value.slice ao' L.length cap').ownBlock with
        | none => exact EVar.mono (HCR.out w3 HBG.out.size HBG.out.block w.heap.size (Nat.le_refl _) k h1 h2) fun b hb => ⟨hb.1, by simp⟩
        | some g => exact HCR.out w3 HBG.out.size HBG.out.block g (World.ownsRow.lt ho g hq).1 k h1 h2
      exact ⟨_, rfl, hO, HBG.out⟩

/-! ### seven cells, as the sort sees them -/
structure V7 where
  nm : ByteArray
  k : Int
  b : Bool
  n : Int
  s : ByteArray
  lo : Option Addr
  ln : Nat
  lc : Nat
  ko : Option Addr
  kn : Nat
  kc : Nat
  hn : nm.size ≤ 9223372036854775807
instance : Inhabited V7 := ⟨⟨ByteArray.empty, 0, false, 0, ByteArray.empty, none, 0, 0, none, 0, 0, by decide⟩⟩
def enc7 (c : V7) : List Value := [.string c.nm, .int .i64 c.k, .bool c.b, .int .i64 c.n, .string c.s, .slice c.lo c.ln c.lc, .slice c.ko c.kn c.kc]
def cf7 (x y : V7) : Int := natC x.nm.data.toList y.nm.data.toList
open Go.Sort in
theorem v7_swo : SWO (ltOf cf7) where
  irrefl x := nat_swo.irrefl x.nm.data.toList
  trans x y z := nat_swo.trans x.nm.data.toList y.nm.data.toList z.nm.data.toList
  ntrans x y z := nat_swo.ntrans x.nm.data.toList y.nm.data.toList z.nm.data.toList

set_option maxRecDepth 100000 in
set_option maxHeartbeats 1600000 in
theorem mcmp_any (x y : V7) (w : World) : Calls Tryz.prog 61 #[.agg (enc7 x).toArray, .agg (enc7 y).toArray] w fun e w' => e = .returned (.int .i64 (cf7 x y)) ∧ Up w w' := by
  obtain ⟨xn, xk, xb, xi, xs, xlo, xln, xlc, xko, xkn, xkc, hx⟩ := x
  obtain ⟨yn, yk, yb, yi, ys, ylo, yln, ylc, yko, ykn, ykc, hy⟩ := y
  unfold enc7 cf7
  dsimp only at hx hy ⊢
  obtain ⟨W1, hW1⟩ : ∃ W, w.alloc (.cells #[.string xn, .int .i64 xk, .bool xb, .int .i64 xi, .string xs, .slice xlo xln xlc, .slice xko xkn xkc] 48 (0, 0)) = W := ⟨_, rfl⟩
  obtain ⟨W2, hW2⟩ : ∃ W, W1.alloc (.cells #[.string yn, .int .i64 yk, .bool yb, .int .i64 yi, .string ys, .slice ylo yln ylc, .slice yko ykn ykc] 48 (0, 0)) = W := ⟨_, rfl⟩
  have hs1 : W1.heap.size = w.heap.size + 1 := by rw [← hW1]; simp
  have hk1 : W2.heap[w.heap.size]? = some (.cells #[.string xn, .int .i64 xk, .bool xb, .int .i64 xi, .string xs, .slice xlo xln xlc, .slice xko xkn xkc] 48 (0, 0)) := by rw [← hW2]; exact (hp_old (by omega)).trans (by rw [← hW1]; exact hp_new rfl)
  have hk2 : W2.heap[w.heap.size + 1]? = some (.cells #[.string yn, .int .i64 yk, .bool yb, .int .i64 yi, .string ys, .slice ylo yln ylc, .slice yko ykn ykc] 48 (0, 0)) := by rw [← hW2]; exact hp_new (by omega)
  have HU : Hid (Up w W2) := by unfold Hid; rw [← hW2, ← hW1]; exact ((Up.refl w).alloc _).alloc _
  have c0 : W2.cell? ⟨w.heap.size, 0, none⟩ = some (.string xn) := cell_of_blk hk1 0
  have d0 : W2.cell? ⟨w.heap.size + 1, 0, none⟩ = some (.string yn) := cell_of_blk hk2 0
  have CM := Lib.hid (compare_any xn yn hx hy W2)
  clear hk1 hk2
  go_enter Tryz.func61, Tryz.ntmps61
  go_wp2_with fail
  refine CM.out.mono ?_
  rintro e w3 ⟨rfl, hu⟩
  have HU3 := Lib.hid (HU.out.trans hu)
  clear hu CM
  go_wp2_with fail
  go_ret
  exact ⟨rfl, HU3.out⟩
open Go.Sort Go.Lib Go.Shelf in
theorem v7_lays (blk off size : Nat) (w : World) : CmpLays Tryz.prog 61 #[] enc7 7 cf7 blk off size w := fun m os dk _ x y =>
  (mcmp_any x y _).mono (by
    rintro e w' ⟨he, hu⟩
    exact ⟨he, hu.grown⟩)
theorem mcmpEnters : ∀ args w, (callFunc 61 args).run Tryz.prog w = .ok (.enter 61 args) w := enters_of Tryz.func61 (by kernel_rfl) rfl
theorem evar_v7 {B : Nat → Prop} {w : World} {x : VR} {cs : List Value} (h : EVar.R B w x cs) (hn : x.1.size ≤ 9223372036854775807) : ∃ c : V7, enc7 c = cs ∧ c.nm = x.1 := by
  obtain ⟨lo, lc, ko, kc, rfl, _⟩ := evar_seven h
  exact ⟨⟨x.1, x.2.kind, x.2.bool, x.2.int, x.2.str, lo, _, lc, ko, _, kc, hn⟩, rfl, rfl⟩
end Go.Proofs.YtomecnncighkgaaGreatDoor
/- A row of variables, sorted. -/
namespace Go.Proofs.YtomecnncighkgaaGreatDoor
open Go.RowKit Go.Deep

theorem addr0 (g j : Nat) : (⟨g, 0, none⟩ : Addr).add j = ⟨g, j, none⟩ := by unfold Addr.add; split <;> simp_all
theorem nodup_inj {α : Type} {l : List α} (h : l.Nodup) {i j : Nat} (hi : i < l.length) (hj : j < l.length) (e : l[i] = l[j]) : i = j := by
  rcases Nat.lt_trichotomy i j with hij | hij | hij
  · exact absurd e (List.pairwise_iff_getElem.1 h i j hi hj hij)
  · exact hij
  · exact absurd e.symm (List.pairwise_iff_getElem.1 h j i hj hi hij)
theorem list_bang7 {l : List Value} {i : Nat} (h : i < l.length) : l[i]? = some l[i]! := by
  rw [getElem!_pos l i h]; exact List.getElem?_eq_getElem h
open Go.Sort in
theorem below_putRow7 {B : Nat} (w : World) (blk off : Nat) (d : Array V7) (h : B ≤ blk) : RowKit.Below B w (putRowK enc7 7 w blk off d) :=
  ⟨rfl, rfl, rfl, by rw [size_putRowK]; exact Nat.le_refl _, fun k hk => by
    show (w.heap.modify blk _)[k]? = w.heap[k]?
    rw [Array.getElem?_modify, if_neg (by omega)]⟩
open Go.Sort Go.Lib in
/-- every block but the row's own stands as it stood -/
theorem sort7_block (w : World) (blk off n : Nat) (d : Array V7) (os : Array Obj) (k : Nat) (hk : k < w.heap.size) (hne : k ≠ blk) : (sortWorldK enc7 7 w blk off n d os).heap[k]? = w.heap[k]? := by
  have h1 : k < (putRowK enc7 7 (Sort.ahead w n) blk off d).heap.size := by rw [size_putRowK]; exact hk
  show ((putRowK enc7 7 (Sort.ahead w n) blk off d).heap ++ os)[k]? = _
  rw [Array.getElem?_append_left h1]
  show (w.heap.modify blk _)[k]? = w.heap[k]?
  rw [Array.getElem?_modify, if_neg (by omega)]
open Go.Sort Go.Lib in
theorem sort7_size (w : World) (blk off n : Nat) (d : Array V7) (os : Array Obj) : w.heap.size ≤ (sortWorldK enc7 7 w blk off n d os).heap.size := by
  show w.heap.size ≤ ((putRowK enc7 7 (Sort.ahead w n) blk off d).heap ++ os).size
  rw [Array.size_append, size_putRowK]
  exact Nat.le_add_right _ _
open Go.Sort Go.Lib in
theorem below_sort7 {B : Nat} (w : World) (blk off n : Nat) (d : Array V7) (os : Array Obj) (h : B ≤ blk) (hw : B ≤ w.heap.size) : RowKit.Below B w (sortWorldK enc7 7 w blk off n d os) :=
  ⟨rfl, rfl, rfl, sort7_size w blk off n d os, fun k hk => sort7_block w blk off n d os k (by omega) (by omega)⟩

open Go.Sort Go.Lib in
set_option maxRecDepth 100000 in
theorem sortv_row (w0 w1 : World) (v : Value) (B : Nat → Prop) (L : List VR) (hl : L.length ≤ 1000000) (hsz : ∀ x ∈ L, x.1.size ≤ 9223372036854775807)
    (h : EVar.Own 48 w0.heap.size B w1 L v) (hb : RowKit.Below w0.heap.size w0 w1) (hn : (L.map nmR).Nodup) :
    Calls Tryz.prog 60 #[v, .func (.func 61) #[] #[]] w1 fun e w2 => e = .returned (.tuple #[]) ∧ EVar.Row (fun b => B b ∨ w0.heap.size ≤ b) w2 (sortN nmR L) v ∧ RowKit.Below w0.heap.size w0 w2 := by
  obtain ⟨css, hcl, hcR, hrow⟩ := h
  rcases hrow.2 with ⟨rfl, h0⟩ | ⟨g, cap, cur, rfl, hg, hh, hncap, _⟩
  · have hL : L = [] := List.length_eq_zero_iff.1 h0
    subst hL
    refine (Tryz.slices_SortFunc_q_none none 0 _ w1).mono ?_
    rintro e w2 ⟨he, rfl⟩
    exact ⟨he, .nil, hb⟩
  · have hgw : g < w1.heap.size := (Array.getElem?_eq_some_iff.1 hh).1
    obtain ⟨C, hCl, hC⟩ := list_pick (R := fun k (c : V7) => ∃ (h1 : k < L.length) (h2 : k < css.length), enc7 c = css[k] ∧ c.nm = L[k].1) L.length (fun k hk => by
      obtain ⟨c, c1, c2⟩ := evar_v7 (hcR k hk (by omega)) (hsz _ (List.getElem_mem hk))
      exact ⟨c, hk, by omega, c1, c2⟩)
    have hlen : ∀ c ∈ css, c.length = 7 := fun c hc => by
      obtain ⟨k, hk, rfl⟩ := List.getElem_of_mem hc
      exact EVar.len (hcR k (by omega) hk)
    have hcells := hrow.cells (g := g) rfl
    have hH : HoldsK enc7 7 w1 g 0 C.toArray := by
      intro t ht
      rw [size_flatK, List.size_toArray] at ht
      rw [get_flatK _ _ _ _ (by rw [List.size_toArray]; exact ht)]
      have hk : t / 7 < C.length := by omega
      obtain ⟨h1, h2, hc1, _⟩ := hC _ hk
      have e3 : C.toArray[t / 7]! = C[t / 7] := by rw [getElem!_pos C.toArray (t / 7) (by rw [List.size_toArray]; exact hk)]; simp
      have e4 : css[t / 7][t % 7]? = some ((enc7 C[t / 7])[t % 7]!) := by rw [← hc1]; exact list_bang7 (l := enc7 C[t / 7]) (Nat.mod_lt _ (by decide))
      have := hcells _ _ (flatten_at css (t / 7) h2 (t % 7) _ hlen e4)
      rw [addr0, show t / 7 * 7 + t % 7 = 0 + t by omega] at this
      rw [e3]
      exact ⟨this, free_of_blk hh _⟩
    have hd : C.toArray.size = L.length := by simp [hCl]
    have := Tryz.slices_SortFunc_q enc7 (fun _ => rfl) (fun x v hv => by
      simp only [enc7, List.mem_cons, List.not_mem_nil, or_false] at hv
      rcases hv with rfl | rfl | rfl | rfl | rfl | rfl | rfl <;> rfl) cf7 v7_swo 61 #[] g 0 cap C.toArray w1 mcmpEnters (v7_lays _ _ _ _) hH hgw (by rw [hd]; omega)
    rw [hd] at this
    refine this.mono ?_
    rintro e w2 ⟨he, d', n, os, hp, hs, hw⟩
    obtain ⟨hz, _, hperm⟩ := hp
    rw [hd] at hz
    have hho : HoldsK enc7 7 w2 g 0 d' := by rw [hw]; exact holdsK_sortWorldK enc7 7 w1 g 0 n _ d' os hgw hH (by rw [hz, hd])
    have hpm : d'.toList.Perm C := by
      have e1 : C.toArray.extract 0 L.length = C.toArray := by rw [← hd, Array.extract_size]
      have e2 : d'.extract 0 L.length = d' := by rw [← hz, Array.extract_size]
      rw [e1, e2] at hperm
      exact hperm
    -- each of the seven cells' names stands for one variable
    have hnm : ∀ (k : Nat) (hk : k < C.length) (hk2 : k < L.length), C[k].nm = L[k].1 := fun k hk hk2 => (hC k hk).2.2.2
    let f : V7 → VR := fun c => ((L.find? fun x => x.1 = c.nm).getD (ByteArray.empty, VT.zero))
    have hf : ∀ (k : Nat) (hk : k < C.length) (hk2 : k < L.length), f C[k] = L[k] := fun k hk hk2 => by
      show ((L.find? fun x => x.1 = C[k].nm).getD _) = _
      rw [hnm k hk hk2]
      cases hfd : L.find? (fun x => x.1 = L[k].1) with
      | none => exact absurd (List.find?_eq_none.1 hfd L[k] (List.getElem_mem hk2)) (by simp)
      | some y =>
        obtain ⟨j, hj, hjy⟩ := List.getElem_of_mem (List.mem_of_find?_eq_some hfd)
        have hy := List.find?_some hfd
        simp only [decide_eq_true_eq] at hy
        have e1 : (L.map nmR)[j]'(by simpa using hj) = (L.map nmR)[k]'(by simpa using hk2) := by
          rw [List.getElem_map, List.getElem_map, hjy]
          show y.1.data.toList = L[k].1.data.toList
          rw [hy]
        have e2 : j = k := nodup_inj hn (by simpa using hj) (by simpa using hk2) e1
        subst e2
        rw [← hjy]; rfl
    have hCf : C.map f = L := List.ext_getElem (by rw [List.length_map, hCl]) fun k h1 h2 => by
      rw [List.getElem_map]; exact hf k (by simpa using h1) h2
    have hnf : ∀ c ∈ C, nmR (f c) = c.nm.data.toList := fun c hc => by
      obtain ⟨k, hk, rfl⟩ := List.getElem_of_mem hc
      rw [hf k hk (by omega)]
      show L[k].1.data.toList = _
      rw [hnm k hk (by omega)]
    have hms : d'.toList.map f = sortN nmR L := by
      refine sortedN hn (by have := hpm.map f; rwa [hCf] at this) fun i j hij hj hi => ?_
      have hj' : j < d'.size := by simpa using hj
      have h1 := hs i j (Nat.zero_le _) hij (by rw [← hz]; exact hj')
      unfold ltOf cf7 at h1
      rw [decide_eq_false_iff_not, getElem!_pos d' j hj', getElem!_pos d' i (by omega)] at h1
      rw [List.getElem_map, List.getElem_map, hnf _ (hpm.mem_iff.1 (by simp)), hnf _ (hpm.mem_iff.1 (by simp))]
      rw [Array.getElem_toList, Array.getElem_toList]
      exact h1
    have hR2 : ∀ c ∈ C, EVar.R (fun b => B b) w2 (f c) (enc7 c) := fun c hc => by
      obtain ⟨k, hk, rfl⟩ := List.getElem_of_mem hc
      obtain ⟨h1, h2, e1, _⟩ := hC k hk
      rw [hf k hk h1, e1]
      refine EVar.mono (EVar.keep (hcR k h1 h2) ?_ fun b hb2 hlt => ?_) fun b hb2 => hb2.1
      · rw [hw]; exact sort7_size w1 g 0 n d' os
      · rw [hw]
        exact sort7_block w1 g 0 n d' os b hlt (fun e => hb2.2 (by rw [e]; rfl))
    refine ⟨he, ?_, by rw [hw]; exact hb.trans (below_sort7 w1 g 0 n d' os hg hb.size)⟩
    have hlen2 : (sortN nmR L).length = L.length := (sortN_perm (nm := nmR) L).length_eq
    have hsz2 : d'.size = (sortN nmR L).length := by rw [← hms]; simp
    rw [← hlen2]
    refine .inr ⟨g, 0, cap, rfl, .inr hg, ?_, by rw [hlen2]; exact hncap, fun k hk => ?_⟩
    · rw [hw]; exact Nat.lt_of_lt_of_le hgw (sort7_size w1 g 0 n d' os)
    · have hk' : k < d'.size := by omega
      have e5 : (sortN nmR L)[k] = f d'[k] := by
        have : (d'.toList.map f)[k]'(by simpa using hk') = f d'[k] := by simp
        rw [← this]
        congr 1
        exact hms.symm
      refine ⟨enc7 d'[k], fun j u hu => ?_, ?_⟩
      · have hj : j < 7 := (List.getElem?_eq_some_iff.1 hu).1
        have ht : k * 7 + j < d'.size * 7 := by omega
        have h1 := (hho (k * 7 + j) (by rw [size_flatK]; exact ht)).1
        rw [get_flatK _ _ _ _ ht, show (k * 7 + j) / 7 = k by omega, show (k * 7 + j) % 7 = j by omega, getElem!_pos d' k hk'] at h1
        have h5 := list_bang7 (l := enc7 d'[k]) (i := j) hj
        rw [hu] at h5
        rw [← Option.some.inj h5, ← Nat.add_assoc] at h1
        exact h1
      · rw [e5]
        exact EVar.mono (hR2 _ (hpm.mem_iff.1 (by simp))) fun _ hb => .inl hb
end Go.Proofs.YtomecnncighkgaaGreatDoor
