/- Sorting a row of results; the walk over report.Merge. -/
import Derived.Test.YtngbjnjkcniabaaGreatDoorRm2
import Derived.Test.YtngbjnjkcniabaaGreatDoorRlives
namespace Go.Proofs.YtngbjnjkcniabaaGreatDoor
open Go.RowKit Go.Deep

theorem list_bang {l : List Value} {i : Nat} (h : i < l.length) : l[i]? = some l[i]! := by
  rw [getElem!_pos l i h]; exact List.getElem?_eq_getElem h
open Go.Sort in
theorem holds_of_at {w : World} {g n cap : Nat} {L : List QuB} (h : QuAt w (.slice (some ⟨g, 0, none⟩) n cap) (L.map (·.1))) (hf : ∀ j, w.frozen? ⟨g, j, none⟩ = false) : HoldsK encQ 3 w g 0 L.toArray := by
  intro t ht
  rw [size_flatK, List.size_toArray] at ht
  rw [get_flatK _ _ _ _ (by rw [List.size_toArray]; exact ht)]
  have hk : t / 3 < L.length := by omega
  obtain ⟨b, off, e, _, hc⟩ := SlAt.at_ h (k := t / 3) (by rw [List.length_map]; exact hk)
  injection e with e
  injection e with e1 e2
  subst e1 e2
  have e3 : L.toArray[t / 3]! = L[t / 3] := by rw [getElem!_pos L.toArray (t / 3) (by rw [List.size_toArray]; exact hk)]; simp
  rw [List.getElem_map] at hc
  have e4 : (Qu.cells L[t / 3].1)[t % 3]? = some ((encQ L[t / 3])[t % 3]!) := list_bang (l := encQ L[t / 3]) (Nat.mod_lt _ (by decide))
  have := hc _ _ e4
  rw [show 0 + t / 3 * 3 + t % 3 = 0 + t by omega] at this
  rw [e3]
  exact ⟨this, hf _⟩
open Go.Sort in
theorem at_of_holds {w : World} {g cap : Nat} {d : Array QuB} (h : HoldsK encQ 3 w g 0 d) (hg : g < w.heap.size) : QuAt w (.slice (some ⟨g, 0, none⟩) d.size cap) (d.toList.map (·.1)) := by
  refine .inr ⟨g, 0, cap, by simp, hg, fun k hk j u hu => ?_⟩
  have hk' : k < d.size := by simpa using hk
  have hj : j < 3 := by
    have := (List.getElem?_eq_some_iff.1 hu).1
    rw [Qu.cells_len] at this
    exact this
  have ht : k * 3 + j < d.size * 3 := by omega
  have h1 := (h (k * 3 + j) (by rw [size_flatK]; exact ht)).1
  rw [get_flatK _ _ _ _ ht, show (k * 3 + j) / 3 = k by omega, show (k * 3 + j) % 3 = j by omega] at h1
  rw [List.getElem_map] at hu
  have e3 : d[k]! = d.toList[k]'(by simpa using hk') := by rw [getElem!_pos d k hk']; simp
  rw [e3] at h1
  have e4 : (encQ (d.toList[k]'(by simpa using hk')))[j]! = u := by
    have h5 := list_bang (l := encQ (d.toList[k]'(by simpa using hk'))) (i := j) hj
    have h6 : (encQ (d.toList[k]'(by simpa using hk')))[j]? = some u := hu
    rw [h6] at h5
    exact (Option.some.inj h5).symm
  rw [e4, ← Nat.add_assoc] at h1
  exact h1
open Go.Sort in
theorem below_putRowQ {B : Nat} (w : World) (blk off : Nat) (d : Array QuB) (h : B ≤ blk) : RowKit.Below B w (putRowK encQ 3 w blk off d) :=
  ⟨rfl, rfl, rfl, by rw [size_putRowK]; exact Nat.le_refl _, fun k hk => by
    show (w.heap.modify blk _)[k]? = w.heap[k]?
    rw [Array.getElem?_modify, if_neg (by omega)]⟩
open Go.Sort Go.Lib in
theorem below_sortQ {B : Nat} (w : World) (blk off n : Nat) (d : Array QuB) (os : Array Obj) (h : B ≤ blk) (hw : B ≤ w.heap.size) : RowKit.Below B w (sortWorldK encQ 3 w blk off n d os) := by
  unfold sortWorldK
  refine (⟨rfl, rfl, rfl, Nat.le_refl _, fun _ _ => rfl⟩ : RowKit.Below B w (Sort.ahead w n)).trans ((below_putRowQ (Sort.ahead w n) blk off d h).trans ?_)
  exact ⟨rfl, rfl, rfl, by simp [grow], fun k hk => by
    have : k < (putRowK encQ 3 (Sort.ahead w n) blk off d).heap.size := by rw [size_putRowK]; exact Nat.lt_of_lt_of_le hk hw
    show ((putRowK encQ 3 (Sort.ahead w n) blk off d).heap ++ os)[k]? = _
    rw [Array.getElem?_append_left this]⟩
def toQB (q : Qu) : QuB := if h : q.name.size ≤ 9223372036854775807 then ⟨q, h⟩ else default
theorem toQB_all {rs : List Qu} (h : ∀ q ∈ rs, q.name.size ≤ 9223372036854775807) : (rs.map toQB).map (·.1) = rs := by
  rw [List.map_map]
  conv => rhs; rw [← List.map_id rs]
  refine List.map_congr_left fun q hq => ?_
  simp only [Function.comp, toQB, dif_pos (h q hq), id]

open Go.Sort Go.Lib in
set_option maxRecDepth 100000 in
theorem sortq_row (w0 w1 : World) (g cap : Nat) (rs : List Qu) (hl : rs.length ≤ 1000000) (hsz : ∀ q ∈ rs, q.name.size ≤ 9223372036854775807) (hg : w0.heap.size ≤ g) (h : TrRow w1 w0.heap.size (.slice (some ⟨g, 0, none⟩) rs.length cap) rs)
    (hb : RowKit.Below w0.heap.size w0 w1) (hn : (rs.map nmQ).Nodup) :
    Calls Tryz.prog 42 #[.slice (some ⟨g, 0, none⟩) rs.length cap, .func (.func 43) #[] #[]] w1 fun e w2 => e = .returned (.tuple #[]) ∧ QuAt w2 (.slice (some ⟨g, 0, none⟩) rs.length cap) (sortQ rs) ∧ RowKit.Below w0.heap.size w0 w2 := by
  have hmap := toQB_all hsz
  obtain ⟨cur, hcur⟩ : ∃ cur, w1.heap[g]? = some (.cells cur 41 (0, 0)) := by
    rcases h.2 with ⟨e, _⟩ | ⟨g', c, cur, e, _, hh, _⟩
    · injection e with e; cases e
    · injection e with e1
      injection e1 with e1
      injection e1 with e1
      subst e1
      exact ⟨cur, hh⟩
  have hH : HoldsK encQ 3 w1 g 0 (rs.map toQB).toArray := holds_of_at (n := rs.length) (cap := cap) (by rw [hmap]; exact TrRow.at h) (fun j => free_of_blk hcur j)
  have hd : (rs.map toQB).toArray.size = rs.length := by simp
  have hblk : g < w1.heap.size := (Array.getElem?_eq_some_iff.1 hcur).1
  have := Tryz.slices_SortFunc_q encQ (fun _ => rfl) (fun x v hv => by
    simp only [encQ, Qu.cells, List.mem_cons, List.not_mem_nil, or_false] at hv
    rcases hv with rfl | rfl | rfl <;> rfl) cfQ quB_swo 43 #[] g 0 cap (rs.map toQB).toArray w1 cmp1Enters (quB_lays _ _ _ _) hH hblk (by rw [hd]; omega)
  rw [hd] at this
  refine this.mono ?_
  rintro e w2 ⟨he, d', n, os, hp, hs, hw⟩
  obtain ⟨hz, _, hperm⟩ := hp
  rw [hd] at hz
  have hho : HoldsK encQ 3 w2 g 0 d' := by rw [hw]; exact holdsK_sortWorldK encQ 3 w1 g 0 n _ d' os hblk hH (by rw [hz, hd])
  have hlt2 : g < w2.heap.size := by rw [hw]; exact lt_sortWorldK encQ 3 w1 g 0 n d' os hblk
  have hat := at_of_holds (cap := cap) hho hlt2
  have hpm : d'.toList.Perm (rs.map toQB) := by
    have e1 : (rs.map toQB).toArray.extract 0 rs.length = (rs.map toQB).toArray := by rw [← hd, Array.extract_size]
    have e2 : d'.extract 0 rs.length = d' := by rw [← hz, Array.extract_size]
    rw [e1, e2] at hperm
    exact hperm
  have hms : d'.toList.map (·.1) = sortQ rs := by
    refine sorted_is hn (by have := hpm.map (·.1); rwa [hmap] at this) fun i j hij hj hi => ?_
    have hj' : j < d'.size := by simpa using hj
    have h1 := hs i j (Nat.zero_le _) hij (by rw [← hz]; exact hj')
    unfold ltOf cfQ at h1
    rw [decide_eq_false_iff_not, getElem!_pos d' j hj', getElem!_pos d' i (by omega)] at h1
    rw [List.getElem_map, List.getElem_map, Array.getElem_toList, Array.getElem_toList]
    exact h1
  rw [hms, hz] at hat
  refine ⟨he, hat, ?_⟩
  rw [hw]
  exact hb.trans (below_sortQ w1 g 0 n d' os hg hb.size)

def MgPost (a b : List Qu) (w : World) (e : Ending) (w' : World) : Prop := ∃ v, e = .returned (.tuple #[v, .int .i64 ((mergeE a b : Nat) : Int)]) ∧ QuAt w' v (mergeF a b) ∧ SlC v ∧ Below w.heap.size w w'
theorem mg_fail {a b : List Qu} {n : Nat} {w w' : World} (h : mergeE a b = n) (hn : n ≠ 0) (hb : Below w.heap.size w w') {v : Value} (hv : v = .int .i64 (n : Nat)) : MgPost a b w (.returned (.tuple #[.slice none 0 0, v])) w' :=
  ⟨.slice none 0 0, by rw [h, hv], by unfold mergeF; rw [if_neg (by omega)]; exact .inl ⟨_, _, rfl, rfl⟩, ⟨_, _, _, rfl, Nat.le_refl _⟩, hb⟩
def MgRel (w1 : World) (a b : List Qu) (f : Nat) (t15 : Value) (wr : World) : Prop :=
  ∃ k : Nat, t15 = .int .i64 (k : Nat) ∧ k ≤ 2 ∧ f = 2 - k ∧ (1 ≤ k → validR a = 0) ∧ (2 ≤ k → validR b = 0) ∧ Below w1.heap.size w1 wr

set_option maxRecDepth 100000 in
set_option maxHeartbeats 3200000 in
theorem merge_any (va vb : Value) (a b : List Qu) (ha : a.length ≤ 10000) (hb : b.length ≤ 10000) (hsa : ∀ q ∈ a, q.name.size ≤ 9223372036854775807) (hsb : ∀ q ∈ b, q.name.size ≤ 9223372036854775807) (w : World) (hA : QuAt w va a) (hB : QuAt w vb b) (hBS : Base36 w) :
    Calls Tryz.prog 25 #[va, vb] w (MgPost a b w) := by
  have HA := Lib.hid hA
  have HB := Lib.hid hB
  have HBA := Lib.hid hBS
  have HSA := Lib.hid hsa
  have HSB := Lib.hid hsb
  obtain ⟨ao, acap, rfl⟩ := SlAt.form hA
  obtain ⟨bo, bcap, rfl⟩ := SlAt.form hB
  clear hA hB hBS hsa hsb
  obtain ⟨W1, hW1⟩ : ∃ W, w.alloc (.cells #[.slice ao a.length acap, .slice bo b.length bcap] 23 (0, 0)) = W := ⟨_, rfl⟩
  have hb1 : Below w.heap.size w W1 := by rw [← hW1]; exact (Below.refl _ _).alloc (Nat.le_refl _) _
  have hk1 : W1.heap[w.heap.size]? = some (.cells #[.slice ao a.length acap, .slice bo b.length bcap] 23 (0, 0)) := by rw [← hW1]; exact hp_new rfl
  have hlt1 : w.heap.size < W1.heap.size := (Array.getElem?_eq_some_iff.1 hk1).1
  have HK1 := Lib.hid hk1
  have HB1 := Lib.hid hb1
  have HMA : Hid (validR a ≠ 0 → mergeE a b = validR a) := fun h => by unfold mergeE; rw [if_pos h]
  have HMB : Hid (validR a = 0 → validR b ≠ 0 → mergeE a b = validR b) := fun h h2 => by unfold mergeE; rw [if_neg (by omega), if_pos h2]
  have HMC : Hid (validR a = 0 → validR b = 0 → mergeE a b = validR (a ++ b)) := fun h h2 => mergeE_all h h2
  clear hb1 hk1
  go_enter Tryz.func25, Tryz.ntmps25
  go_wp2_with fail
  go_loopg [15] 2 (MgRel W1 a b)
  case atStart => exact ⟨0, rfl, by decide, rfl, fun h => absurd h (by decide), fun h => absurd h (by decide), Below.refl _ _⟩
  case round =>
    obtain ⟨k, rfl, hk, rfl, h1, h2, hbel⟩ := hrel
    have HBE := Lib.hid (HB1.out.trans (hbel.mono HB1.out.size))
    have hkr := (hbel.block _ hlt1).trans HK1.out
    have c0 : wr.cell? ⟨w.heap.size, 0, none⟩ = some (.slice ao a.length acap) := cell_of_blk hkr 0
    have c1 : wr.cell? ⟨w.heap.size, 1, none⟩ = some (.slice bo b.length bcap) := cell_of_blk hkr 1
    have HBL := Lib.hid hbel
    have H1 := Lib.hid h1
    have H2 := Lib.hid h2
    have hbs := HBE.out.size
    have hbs1 := hbel.size
    clear hbel hkr h1 h2
    rcases (show k = 0 ∨ k = 1 ∨ k = 2 by omega) with rfl | rfl | rfl
    · have VA := Lib.hid (valid_b (.slice ao a.length acap) a wr (SlAt.below HA.out HBE.out) (HBA.out.below HBE.out))
      go_wp2_with fail
      refine VA.out.mono ?_
      rintro e w3 ⟨rfl, hb⟩
      have HB3 := Lib.hid (HBE.out.trans (hb.mono hbs))
      have HBL3 := Lib.hid (HBL.out.trans (hb.mono hbs1))
      clear hb VA c0 c1
      by_cases hv : validR a = 0
      · rw [hv]
        clear hlt1
        as_aux_lemma =>
        go_wp2_with fail
        go_roundg 1
        case measure => omega
        case rel => exact ⟨1, by go_num, by decide, rfl, fun _ => hv, fun h => absurd h (by decide), HBL3.out⟩
      · have t0 : (((validR a : Nat) : Int) != 0) = true := by rw [bne_iff_ne]; omega
        have HF := Lib.hid (HMA.out hv)
        have HNV := Lib.hid hv
        clear hv
        as_aux_lemma =>
        go_wp2_with fail
        go_ret2
        exact mg_fail HF.out HNV.out HB3.out rfl
    · have hva := H1.out (by decide)
      have VA := Lib.hid (valid_b (.slice bo b.length bcap) b wr (SlAt.below HB.out HBE.out) (HBA.out.below HBE.out))
      go_wp2_with fail
      refine VA.out.mono ?_
      rintro e w3 ⟨rfl, hb⟩
      have HB3 := Lib.hid (HBE.out.trans (hb.mono hbs))
      have HBL3 := Lib.hid (HBL.out.trans (hb.mono hbs1))
      clear hb VA c0 c1
      by_cases hv : validR b = 0
      · rw [hv]
        have HVA := Lib.hid hva
        have HVB := Lib.hid hv
        clear hlt1 hv hva
        as_aux_lemma =>
        go_wp2_with fail
        go_roundg 0
        case measure => omega
        case rel => exact ⟨2, by go_num, by decide, rfl, fun _ => HVA.out, fun _ => HVB.out, HBL3.out⟩
      · have t0 : (((validR b : Nat) : Int) != 0) = true := by rw [bne_iff_ne]; omega
        have HF := Lib.hid (HMB.out hva hv)
        have HNV := Lib.hid hv
        clear hv hva
        as_aux_lemma =>
        go_wp2_with fail
        go_ret2
        exact mg_fail HF.out HNV.out HB3.out rfl
    · have HME := Lib.hid (HMC.out (H1.out (by decide)) (H2.out (by decide)))
      obtain ⟨W4, hW4⟩ : ∃ W, wr.alloc (.cells #[.slice ao a.length acap, .slice bo b.length bcap] 23 (0, 0)) = W := ⟨_, rfl⟩
      have hb4 : Below wr.heap.size wr W4 := by rw [← hW4]; exact (Below.refl _ _).alloc (Nat.le_refl _) _
      have hk4 : W4.heap[wr.heap.size]? = some (.cells #[.slice ao a.length acap, .slice bo b.length bcap] 23 (0, 0)) := by rw [← hW4]; exact hp_new rfl
      have HB4 := Lib.hid (HBE.out.trans (hb4.mono hbs))
      have CC := Lib.hid (concat_any wr.heap.size 2 _ _ a b ha hb W4 (Array.getElem?_eq_some_iff.1 hk4).1 (cell_of_blk hk4 0) (cell_of_blk hk4 1) (SlAt.below HA.out HB4.out) (SlAt.below HB.out HB4.out))
      have hs4 := HB4.out.size
      clear hb4 hk4 c0 c1 H1 H2 HMA HMB HMC HBL hbs1 hlt1
      go_wp2_with fail
      refine CC.out.mono ?_
      rintro e w5 ⟨v5, rfl, hr5, hb⟩
      have HB5 := Lib.hid (HB4.out.trans (hb.mono hs4))
      have HR5 := Lib.hid (ownsRow_base (base' := w.heap.size) hr5 hs4)
      have VA := Lib.hid (valid_b v5 (a ++ b) w5 (TrRow.at hr5) (HBA.out.below HB5.out))
      obtain ⟨o5, c5, hv5⟩ := ownsRow_form hr5
      obtain ⟨n, hn⟩ : ∃ n, (a ++ b).length = n := ⟨_, rfl⟩
      have HN5 := Lib.hid hn
      rw [hn] at hv5
      subst hv5
      clear hb hr5 CC hW4 hn
      go_wp2_with fail
      refine VA.out.mono ?_
      rintro e w6 ⟨rfl, hb⟩
      have HB6 := Lib.hid (HB5.out.trans (hb.mono HB5.out.size))
      have HR6 : Hid (TrRow w6 w.heap.size (.slice o5 n c5) (a ++ b)) := ownsRow_below HR5.out hb
      clear hb VA HR5
      by_cases hv : validR (a ++ b) = 0
      · have HN := Lib.hid ((validR_iff (a ++ b)).1 hv).2.2
        have HSC := Lib.hid (SlC.of_row HR6.out)
        have HMF : Hid (mergeF a b = sortQ (a ++ b)) := by unfold Hid mergeF; rw [HME.out, if_pos hv]
        have HM0 : Hid (mergeE a b = 0) := HME.out.trans hv
        have SF : Hid (Calls Tryz.prog 42 #[.slice o5 n c5, .func (.func 43) #[] #[]] w6 fun e w2 => e = .returned (.tuple #[]) ∧ QuAt w2 (.slice o5 n c5) (sortQ (a ++ b)) ∧ Below w.heap.size w w2) := by
          unfold Hid
          have HR7 := HR6.out
          rw [← HN5.out] at HR7 ⊢
          rcases HR7.2 with ⟨e, h0⟩ | ⟨g, c, cur, e, hg, _⟩
          · have hnil : a ++ b = [] := List.length_eq_zero_iff.1 h0
            rw [hnil]
            refine (Tryz.slices_SortFunc_q_none o5 c5 _ w6).mono ?_
            rintro e w2 ⟨he, rfl⟩
            exact ⟨he, .inl ⟨_, _, rfl, rfl⟩, HB6.out⟩
          · injection e with e1 e2 e3
            subst e1
            exact sortq_row w w6 g c5 (a ++ b) (by rw [List.length_append]; omega) (fun q hq => (List.mem_append.1 hq).elim (HSA.out q) (HSB.out q)) hg HR7 HB6.out HN.out
        rw [hv]
        clear hv HME
        go_wp2_with fail
        refine SF.out.mono ?_
        rintro e w7 ⟨rfl, hq, hb7⟩
        have HQ := Lib.hid hq
        have HB7 := Lib.hid hb7
        clear hq hb7 SF
        go_wp2_with fail
        go_ret2
        exact ⟨_, by rw [HM0.out]; rfl, by rw [HMF.out]; exact HQ.out, HSC.out, HB7.out⟩
      · have t0 : (((validR (a ++ b) : Nat) : Int) != 0) = true := by rw [bne_iff_ne]; omega
        have HNV := Lib.hid hv
        clear hv
        generalize validR (a ++ b) = er at *
        as_aux_lemma =>
        go_wp2_with fail
        go_ret2
        exact mg_fail HME.out HNV.out HB6.out rfl
end Go.Proofs.YtngbjnjkcniabaaGreatDoor
