/- The walk over the reference's Cycle: the cycle in plain words is what it returns. -/
import Derived.Test.YtfegmmafcopbpaaGreatDoorRg7
import Derived.Test.YtfegmmafcopbpaaGreatDoorRg8
import Derived.Laws.OwnMore
namespace Go.Proofs.YtfegmmafcopbpaaGreatDoor
open Go.RowKit

def cyD (G : Gr) (s k : Nat) : Nat := distF (be G) G.length s k
def wayF (G : Gr) (s m i : Nat) : List Bs := (pathC G (cyD G s) (m + 1) i).tail
theorem wayF_zero (G : Gr) (s i : Nat) : wayF G s 0 i = [] := rfl
theorem pathC_tail (G : Gr) (D : Nat → Nat) {m : Nat} (k : Nat) (hm : m ≠ 0) : pathC G D m k = idA G k :: (pathC G D m k).tail := by
  cases m with
  | zero => exact absurd rfl hm
  | succ m => rfl
theorem way_next {G : Gr} (hs : Sound G) {s i m : Nat} (hi : cyD G s i = m + 1) (hm : m ≠ 0) :
    ∃ k, fnameF G (nextC G (cyD G s) i m) = idA G k ∧ wayF G s m i = idA G k :: wayF G s (m - 1) k ∧ cyD G s k = m ∧ k < G.length := by
  obtain ⟨k, h1, h2, h3⟩ := nextC_some hs hi hm
  refine ⟨k, ?_, ?_, h2, h3⟩
  · unfold fnameF
    have h1' : firstF (idA G) (nextC G (cyD G s) i m) = some k := h1
    rw [h1']
  · obtain ⟨m', rfl⟩ : ∃ m', m = m' + 1 := ⟨m - 1, by omega⟩
    have h1' : firstF (idA G) (nextC G (cyD G s) i (m' + 1)) = some k := h1
    unfold wayF
    rw [pathC_more hm h1']
    exact pathC_tail G _ k (by omega)
theorem way_start {G : Gr} {s m : Nat} (h : cycS G = some s) (hm : cyD G s s = m + 1) : [idA G s] ++ wayF G s m s = cycF G := by
  rw [cycF_at h]
  show idA G s :: wayF G s m s = pathC G (cyD G s) (cyD G s s) s
  rw [hm, pathC_tail G _ s (by omega)]
  rfl
def nxTo (G : Gr) (s i m j : Nat) : List Nat := ((ab G i).take j).filter fun k => decide (cyD G s k = m)
theorem nxTo_succ {G : Gr} {s i m j q : Nat} (h : (ab G i)[j]? = some q) : nxTo G s i m (j + 1) = if cyD G s q = m then nxTo G s i m j ++ [q] else nxTo G s i m j := by
  unfold nxTo
  rw [List.take_add_one, h, List.filter_append]
  by_cases hc : cyD G s q = m
  · rw [if_pos hc]; simp [hc]
  · rw [if_neg hc]; simp [hc]
theorem nxTo_full (G : Gr) (s i m : Nat) : nxTo G s i m (ab G i).length = nextC G (cyD G s) i m := by
  unfold nxTo nextC
  rw [List.take_length]
theorem nxTo_lt {G : Gr} (hs : Sound G) {s i m j : Nat} : ∀ k ∈ nxTo G s i m j, k < G.length := fun k hk => by
  have := List.mem_of_mem_take (List.mem_filter.1 hk).1
  exact (hs.ab_lt this).1
theorem ab_at {G : Gr} {i j : Nat} {b : Bs} (h : (needA G i)[j]? = some b) : (ab G i)[j]? = some (posG G b) := by
  unfold ab
  rw [List.getElem?_map, h]
  rfl
theorem ab_lenC (G : Gr) (i : Nat) : (ab G i).length = (needA G i).length := by unfold ab; rw [List.length_map]
theorem dist_eq {G : Gr} (hs : Sound G) (s q m : Nat) (hm : m ≠ 0) : (distR G q s == ((m : Nat) : Int)) = decide (cyD G s q = m) := by
  unfold distR cyD
  rw [dist_turn hs]
  by_cases h : distF (be G) G.length s q = 0
  · rw [if_pos h, h, decide_eq_false (by omega), beq_eq_false_iff_ne]
    omega
  · rw [if_neg h]
    by_cases h2 : distF (be G) G.length s q = m
    · rw [h2, decide_eq_true rfl]
      exact beq_self_eq_true _
    · rw [decide_eq_false h2, beq_eq_false_iff_ne]
      omega
theorem start_none {G : Gr} (h : cycS G = none) : fnameF G (cycL G) = [] ∧ cycF G = [] := by
  constructor
  · unfold fnameF
    have : firstF (idA G) (cycL G) = none := h
    rw [this]
  · unfold cycF
    rw [h]
theorem start_some {G : Gr} {s : Nat} (h : cycS G = some s) : fnameF G (cycL G) = idA G s ∧ s < G.length ∧ ∃ m, cyD G s s = m + 1 ∧ m ≤ G.length := by
  have h1 : firstF (idA G) (cycL G) = some s := h
  obtain ⟨h2, h3⟩ := mem_cycL.1 (firstF_mem h1).1
  refine ⟨by unfold fnameF; rw [h1], h2, cyD G s s - 1, ?_, ?_⟩
  · have : 0 < cyD G s s := h3
    omega
  · have := distF_le (be G) G.length s s
    unfold cyD
    omega

theorem StrsAt.lit {w : World} {b off n cap : Nat} {ss : List ByteArray} (h : StrsAt w (.slice (some ⟨b, off, none⟩) n cap) ss) {k : Nat} (hk : k < ss.length) : b < w.heap.size ∧ w.cell? ⟨b, off + k, none⟩ = some (.string (ss.getD k ByteArray.empty)) := by
  obtain ⟨b', off', e, h1⟩ := h.at_ hk
  injection e with e
  injection e with e1 e2
  subst e1 e2
  exact h1
theorem pathC_len (G : Gr) (D : Nat → Nat) : ∀ (m i : Nat), (pathC G D m i).length ≤ m
  | 0, _ => Nat.le_refl _
  | m + 1, i => by
    rw [pathC, List.length_cons]
    split
    · exact Nat.le_add_left _ _
    · split
      · exact Nat.le_add_left _ _
      · exact Nat.succ_le_succ (pathC_len G D m _)
theorem cycleF_len (G : Gr) (hl : G.length ≤ 1000) : (cycleF G).length ≤ 1000000 := by
  unfold cycleF
  split
  · exact Nat.zero_le _
  · unfold cycF
    split
    · exact Nat.zero_le _
    · rename_i s _
      have h1 := pathC_len G (distF (be G) G.length s) (distF (be G) G.length s s) s
      have h2 := distF_le (be G) G.length s s
      omega

def NamesPost (l : List Bs) (w : World) (e : Ending) (w' : World) : Prop := ∃ r ss, e = .returned r ∧ StrsAt w' r ss ∧ ss.map (·.data.toList) = l ∧ Below w.heap.size w w'
def RCycRel (w1 : World) (G : Gr) (s : Nat) (f : Nat) (t4 t5 _t6 _t7 _t8 : Value) (wr : World) : Prop :=
  ∃ (m i : Nat) (out : List ByteArray), t5 = .int .i64 (m : Nat) ∧ f = m ∧ cyD G s i = m + 1 ∧ i < G.length ∧ wr.ownsRow w1.heap.size 9 1 t4 out.length (out.map Value.string) ∧ 0 < out.length ∧
    (out.getD (out.length - 1) ByteArray.empty).data.toList = idA G i ∧ dts out ++ wayF G s m i = cycF G ∧ out.length + m ≤ G.length + 1 ∧ Below w1.heap.size w1 wr
def RCycIn (w1 : World) (G : Gr) (s i m n : Nat) (f : Nat) (t7 t8 : Value) (wr : World) : Prop :=
  ∃ (j : Nat) (b : ByteArray), t8 = .int .i64 (j : Nat) ∧ j ≤ n ∧ f = n - j ∧ t7 = .string b ∧ b.data.toList = fnameF G (nxTo G s i m j) ∧ b.size ≤ 9223372036854775807 ∧ Below w1.heap.size w1 wr

set_option maxRecDepth 100000 in
set_option maxHeartbeats 6400000 in
theorem rcycle_any (nv : Value) (ns : List Nd) (hl : ns.length ≤ 1000) (hnl : ∀ x ∈ ns, x.needs.length ≤ 9223372036854775807) (w : World) (h : NdAt w nv ns) : Calls Tryz.prog 20 #[nv] w (NamesPost (cycleF (grO ns)) w) := by
  have HF := Lib.hid (rformed_any nv ns (by omega) hnl w h)
  have FA := fun W (hW : Below w.heap.size w W) s => Lib.hid (find_any nv ns s (by omega) W (h.below hW))
  have SA : Hid (formedF (grO ns) = 0 → ∀ W, Below w.heap.size w W → Calls Tryz.prog 44 #[nv] W fun e w' => ∃ s : ByteArray, e = .returned (.string s) ∧ s.data.toList = fnameF (grO ns) (cycL (grO ns)) ∧ Below W.heap.size W w') := fun h0 W hW => rstart_any nv ns (formed_sound h0) W (h.below hW)
  have DA : Hid (formedF (grO ns) = 0 → ∀ (a b : ByteArray), a.data.toList ∈ idsG (grO ns) → b.data.toList ∈ idsG (grO ns) → ∀ W, Below w.heap.size w W → Calls Tryz.prog 45 #[nv, .string a, .string b] W fun e w' => e = .returned (.int .i64 (distR (grO ns) (posG (grO ns) a.data.toList) (posG (grO ns) b.data.toList))) ∧ Below W.heap.size W w') := fun h0 a b ha hb W hW => rdistance_any nv ns (formed_sound h0) a b ha hb W (h.below hW)
  have H := Lib.hid h
  obtain ⟨ao, cap, rfl⟩ := h.sl.form
  obtain ⟨i9, hi9⟩ := Tryz.info9'
  have HI := Lib.hid hi9
  have HL := Lib.hid (grO_len ns)
  clear h hnl hi9
  go_enter Tryz.func20, Tryz.ntmps20
  by_cases h1 : formedF (grO ns) = 0
  · have HV : Hid (cycleF (grO ns) = cycF (grO ns)) := by unfold Hid cycleF; rw [if_neg (by simp [h1])]
    have SA1 := Lib.hid (SA.out h1)
    have DA1 := Lib.hid (DA.out h1)
    have HSO := Lib.hid (formed_sound h1)
    rw [h1] at HF
    clear h1 SA DA
    cases hc : cycS (grO ns) with
    | none =>
      obtain ⟨hfn, hcf⟩ := start_none hc
      have HFN := Lib.hid hfn
      have HCF := Lib.hid hcf
      clear hc hfn hcf FA DA1
      as_aux_lemma =>
      go_wp2_with fail
      refine HF.out.mono ?_
      rintro e w1 ⟨rfl, hb⟩
      have HB := Lib.hid hb
      have S1 := Lib.hid (SA1.out w1 hb)
      clear hb HF SA1
      go_wp2_with fail
      refine S1.out.mono ?_
      rintro e w2 ⟨s, rfl, hs, hb⟩
      have HB2 := Lib.hid (HB.out.trans (hb.mono HB.out.size))
      have het := empty_test s
      have hei := empty_is s
      rw [decide_eq_true (hs.trans HFN.out)] at het hei
      clear hs hb S1
      go_wp2_with fail
      go_ret
      exact ⟨_, [], rfl, .inl ⟨_, _, rfl, rfl⟩, by rw [HV.out, HCF.out]; rfl, HB2.out⟩
    | some k0 =>
      obtain ⟨hfn, hk0, m0, hm0, hml⟩ := start_some hc
      have HFN := Lib.hid hfn
      have HK0 := Lib.hid hk0
      have HM0 := Lib.hid hm0
      have HC := Lib.hid hc
      have HML := Lib.hid hml
      clear hfn hk0 hm0 hc hml
      go_wp2_with fail
      refine HF.out.mono ?_
      rintro e w1 ⟨rfl, hb⟩
      have HB := Lib.hid hb
      have S1 := Lib.hid (SA1.out w1 hb)
      clear hb HF SA1
      go_wp2_with fail
      refine S1.out.mono ?_
      rintro e w2 ⟨s, rfl, hs, hb⟩
      have HB2 := Lib.hid (HB.out.trans (hb.mono HB.out.size))
      have HSI : Hid (s.data.toList = idA (grO ns) k0) := hs.trans HFN.out
      have hsm : s.data.toList ∈ idsG (grO ns) := by rw [HSI.out]; exact idA_mem HK0.out
      have het := empty_test s
      have hei := empty_is s
      rw [decide_eq_false (by rw [HSI.out]; exact id_ne HSO.out HK0.out)] at het hei
      have hpk : posG (grO ns) s.data.toList = k0 := by rw [HSI.out]; exact posG_id HSO.out.nodup HK0.out
      have DS : Hid (∀ (y : ByteArray), y.data.toList ∈ idsG (grO ns) → ∀ W, Below w.heap.size w W → Calls Tryz.prog 45 #[.slice ao ns.length cap, .string y, .string s] W fun e w' => e = .returned (.int .i64 (distR (grO ns) (posG (grO ns) y.data.toList) k0)) ∧ Below W.heap.size W w') := fun y hy W hW => by
        have := DA1.out y s hy hsm W hW
        rwa [hpk] at this
      have HB3 := Lib.hid (HB2.out.alloc HB2.out.size (.cells #[Value.string s] 9 (0, 0)))
      have DS0 := Lib.hid (DS.out s hsm _ HB3.out)
      rw [hpk] at DS0
      have hdr : distR (grO ns) k0 k0 = ((m0 + 1 : Nat) : Int) := by
        have e1 := dist_turn HSO.out k0 k0
        have e2 := HM0.out
        unfold cyD at e2
        unfold distR
        rw [e1, e2, if_neg (by omega)]
      rw [hdr] at DS0
      have HOW0 : Hid ((w2.alloc (.cells #[Value.string s] 9 (0, 0))).ownsRow w.heap.size 9 1 (.slice (some ⟨w2.heap.size, 0, none⟩) 1 1) 1 [Value.string s]) := World.ownsRow_lit w2 #[Value.string s] 1 HB2.out.size (by decide) rfl
      have hgm : m0 ≤ 1000 := by have := HML.out; rw [HL.out] at this; omega
      have hwr : IntKind.i64.wrap (((m0 + 1 : Nat) : Int) - 1) = ((m0 : Nat) : Int) := by
        rw [show ((m0 + 1 : Nat) : Int) - 1 = ((m0 : Nat) : Int) by omega]
        exact IntWalk.i64_in _ (by omega)
      have HSZ : Hid (s.size ≤ 9223372036854775807) := ids_size HSO.out hsm
      clear hs hb S1 hpk hdr DA1 hsm
      go_wp2_with fail
      clear het hei
      refine DS0.out.mono ?_
      rintro e w3 ⟨rfl, hb⟩
      have HB4 := Lib.hid (HB3.out.trans (hb.mono HB3.out.size))
      have HOW4 := Lib.hid (ownsRow_below HOW0.out hb)
      clear hb DS0 HB3 HOW0
      go_wp2_with fail
      clear hwr
      go_loopg [4, 5, 6, 7, 8] m0 (RCycRel w (grO ns) k0)
      case atStart =>
        refine ⟨m0, k0, [s], rfl, rfl, HM0.out, HK0.out, HOW4.out, Nat.zero_lt_one, HSI.out, ?_, ?_, HB4.out⟩
        · have := way_start HC.out HM0.out
          rw [← HSI.out] at this
          exact this
        · have := HML.out
          show 1 + m0 ≤ _
          omega
      case round =>
        obtain ⟨m, i, out, rfl, hfm, hdi, hi, hown, hop, hla, hway, hlen, hbr⟩ := hrel
        have hfm2 := hfm.symm
        subst hfm2
        rw [HL.out] at hlen hi
        have HDI := Lib.hid hdi
        have HOWN := Lib.hid hown
        have HLA := Lib.hid hla
        have HWAY := Lib.hid hway
        have HBR := Lib.hid hbr
        obtain ⟨a4, c4, rfl⟩ := ownsRow_form hown
        clear hdi hown hla hway hbr HB4 HOW4
        by_cases hm : 0 < m
        · have hmi : (0 : Int) < ((m : Nat) : Int) := by omega
          obtain ⟨k, hk1, hk2, hk3, hk4⟩ := way_next HSO.out HDI.out (by omega)
          have HK1 := Lib.hid hk1
          have HK2 := Lib.hid hk2
          have HK3 := Lib.hid hk3
          have HK4 := Lib.hid hk4
          clear hk1 hk2 hk3 hk4
          obtain ⟨sb, soff, rfl, hsb, hsc⟩ := (StrsAt.of_row HOWN.out).at_ (show out.length - 1 < out.length by omega)
          have F1 := FA wr HBR.out (out.getD (out.length - 1) ByteArray.empty)
          rw [HLA.out] at F1
          rw [find_pos (idA_mem (by rw [HL.out]; exact hi)), posG_id HSO.out.nodup (by rw [HL.out]; exact hi)] at F1
          obtain ⟨nb, noff, rfl, hnb, _, hc2, hsx⟩ := (H.out.below HBR.out).at2 hi
          have HX : Hid (needA (grO ns) i = dts (ns.getD i default).needs) := grO_need ns hi
          have HSTN : Hid (∀ W, Below w.heap.size w W → StrsAt W (ns.getD i default).nv (ns.getD i default).needs) := fun W hW => (H.out.below hW).st _ (by rw [List.getD, List.getElem?_eq_getElem hi]; exact List.getElem_mem hi)
          have hnll := sound_needs HSO.out (ns.getD i default) (by rw [List.getD, List.getElem?_eq_getElem hi]; exact List.getElem_mem hi)
          obtain ⟨xao, xcap, hxe⟩ := hsx.form
          rw [hxe] at hc2 HSTN
          clear hxe hsx
          generalize (ns.getD i default).needs = nl at *
          generalize out.getD (out.length - 1) ByteArray.empty = y0 at *
          have hii : ((i : Nat) : Int) < (ns.length : Int) := by omega
          have hi0 : (0 : Int) ≤ ((i : Nat) : Int) := by omega
          have hw1 : IntKind.i64.wrap ((out.length : Int) - 1) = ((out.length - 1 : Nat) : Int) := by
            rw [show (out.length : Int) - 1 = ((out.length - 1 : Nat) : Int) by omega]
            exact IntWalk.i64_in _ (by omega)
          have hw2 : (0 : Int) ≤ ((out.length - 1 : Nat) : Int) := by omega
          have hw3 : ((out.length - 1 : Nat) : Int) < (out.length : Int) := by omega
          obtain ⟨p, hp⟩ : ∃ p, out.length - 1 = p := ⟨_, rfl⟩
          rw [hp] at hsc hw1 hw2 hw3
          have HP := Lib.hid hp
          clear hp
          go_wp2_with fail
          refine F1.out.mono ?_
          rintro e w5 ⟨rfl, rfl⟩
          clear F1 hsc hw1 hw2 hw3
          go_wp2_with fail
          clear hc2
          have HNL : Hid ((ab (grO ns) i).length = nl.length) := by unfold Hid; rw [ab_lenC, HX.out, dts_len]
          go_loopg [7, 8] nl.length (RCycIn w5 (grO ns) k0 i m nl.length)
          case atStart => exact ⟨0, ⟨#[]⟩, rfl, Nat.zero_le _, rfl, rfl, rfl, by decide, Below.refl _ _⟩
          case round =>
            obtain ⟨j, b, rfl, hj, rfl, rfl, hbn, hbs, hbr2⟩ := hrel
            have HBN := Lib.hid hbn
            have hb6 := HBR.out.trans (hbr2.mono HBR.out.size)
            have HB6 := Lib.hid hb6
            have HBR2 := Lib.hid hbr2
            clear hbn hbr2 hb6
            by_cases hjl : j < nl.length
            · have hji : ((j : Nat) : Int) < (nl.length : Int) := by omega
              obtain ⟨mb, moff, rfl, hmb, hmc⟩ := (HSTN.out _ HB6.out).at_ hjl
              have HMC : Hid (∀ W, Below w.heap.size w W → W.cell? ⟨mb, moff + j, none⟩ = some (.string (nl.getD j ByteArray.empty))) := fun W hW => ((HSTN.out W hW).lit hjl).2
              have hya := dts_at nl hjl
              rw [← HX.out] at hya
              have HNS := nxTo_succ (s := k0) (m := m) (ab_at hya)
              have hym := HSO.out.need (List.mem_of_getElem? hya)
              have D1 := Lib.hid (DS.out _ hym _ HB6.out)
              have HNA : Hid (fnameF (grO ns) (nxTo (grO ns) k0 i m (j + 1)) = if cyD (grO ns) k0 (posG (grO ns) (nl.getD j ByteArray.empty).data.toList) = m then (if b.data.toList = [] ∨ natC (nl.getD j ByteArray.empty).data.toList b.data.toList < 0 then (nl.getD j ByteArray.empty).data.toList else b.data.toList) else b.data.toList) := by
                unfold Hid
                rw [HNS]
                split
                · rw [nameF_snoc HSO.out (nxTo_lt HSO.out), ← HBN.out, idA_pos hym]
                · rw [HBN.out]
              have hdq := dist_eq HSO.out k0 (posG (grO ns) (nl.getD j ByteArray.empty).data.toList) m (by omega)
              have hys := ids_size HSO.out hym
              clear hya HNS hym
              generalize nl.getD j ByteArray.empty = y at *
              have CMP := fun W => Lib.hid (rcompare_any y b hys hbs W)
              have het := empty_test b
              have hei := empty_is b
              generalize distR (grO ns) (posG (grO ns) y.data.toList) k0 = dz at *
              by_cases hcq : cyD (grO ns) k0 (posG (grO ns) y.data.toList) = m
              · rw [decide_eq_true hcq] at hdq
                by_cases hbe : b.data.toList = []
                · rw [decide_eq_true hbe] at het hei
                  have HNB : Hid (y.data.toList = fnameF (grO ns) (nxTo (grO ns) k0 i m (j + 1))) := by unfold Hid; rw [HNA.out, if_pos hcq, if_pos (.inl hbe)]
                  clear HNA hcq hbe CMP
                  as_aux_lemma =>
                  go_wp2_with fail
                  refine D1.out.mono ?_
                  rintro e w7 ⟨rfl, hb⟩
                  have HB8 := Lib.hid (HBR2.out.trans (hb.mono HBR2.out.size))
                  have HBW := Lib.hid (HB6.out.trans (hb.mono HB6.out.size))
                  have hc7 := HMC.out w7 HBW.out
                  clear hb D1 hmc
                  go_wp2_with fail
                  go_roundg (nl.length - (j + 1))
                  case measure => omega
                  case rel => exact ⟨j + 1, y, by go_num, by omega, rfl, rfl, HNB.out, hys, HB8.out⟩
                · rw [decide_eq_false hbe] at het hei
                  have HNB : Hid (fnameF (grO ns) (nxTo (grO ns) k0 i m (j + 1)) = if natC y.data.toList b.data.toList < 0 then y.data.toList else b.data.toList) := by
                    unfold Hid
                    rw [HNA.out, if_pos hcq]
                    by_cases hz : natC y.data.toList b.data.toList < 0
                    · rw [if_pos (.inr hz), if_pos hz]
                    · rw [if_neg (by simp [hbe, hz]), if_neg hz]
                  clear HNA hcq hbe
                  by_cases hz : natC y.data.toList b.data.toList < 0
                  · have HNB2 : Hid (y.data.toList = fnameF (grO ns) (nxTo (grO ns) k0 i m (j + 1))) := by unfold Hid; rw [HNB.out, if_pos hz]
                    clear HNB
                    generalize natC y.data.toList b.data.toList = z at *
                    as_aux_lemma =>
                    go_wp2_with fail
                    refine D1.out.mono ?_
                    rintro e w7 ⟨rfl, hb⟩
                    have HB8 := Lib.hid (HBR2.out.trans (hb.mono HBR2.out.size))
                    have HBW := Lib.hid (HB6.out.trans (hb.mono HB6.out.size))
                    have hc7 := HMC.out w7 HBW.out
                    clear hb D1 hmc
                    go_wp2_with fail
                    refine (CMP _).out.mono ?_
                    rintro e w8 ⟨rfl, hu⟩
                    have HB9 := Lib.hid (HB8.out.trans (hu.b.mono HB8.out.size))
                    have hc8 := HMC.out w8 (HBW.out.trans (hu.b.mono HBW.out.size))
                    clear hu hc7
                    go_wp2_with fail
                    go_roundg (nl.length - (j + 1))
                    case measure => omega
                    case rel => exact ⟨j + 1, y, by go_num, by omega, rfl, rfl, HNB2.out, hys, HB9.out⟩
                  · have HNB2 : Hid (b.data.toList = fnameF (grO ns) (nxTo (grO ns) k0 i m (j + 1))) := by unfold Hid; rw [HNB.out, if_neg hz]
                    clear HNB
                    generalize natC y.data.toList b.data.toList = z at *
                    have hzf : decide (z < 0) = false := decide_eq_false hz
                    clear hz
                    as_aux_lemma =>
                    go_wp2_with fail
                    refine D1.out.mono ?_
                    rintro e w7 ⟨rfl, hb⟩
                    have HB8 := Lib.hid (HBR2.out.trans (hb.mono HBR2.out.size))
                    have HBW := Lib.hid (HB6.out.trans (hb.mono HB6.out.size))
                    have hc7 := HMC.out w7 HBW.out
                    clear hb D1 hmc
                    go_wp2_with fail
                    refine (CMP _).out.mono ?_
                    rintro e w8 ⟨rfl, hu⟩
                    have HB9 := Lib.hid (HB8.out.trans (hu.b.mono HB8.out.size))
                    have hc8 := HMC.out w8 (HBW.out.trans (hu.b.mono HBW.out.size))
                    clear hu hc7
                    go_wp2_with fail
                    go_roundg (nl.length - (j + 1))
                    case measure => omega
                    case rel => exact ⟨j + 1, b, by go_num, by omega, rfl, rfl, HNB2.out, hbs, HB9.out⟩
              · rw [decide_eq_false hcq] at hdq
                have HNB : Hid (b.data.toList = fnameF (grO ns) (nxTo (grO ns) k0 i m (j + 1))) := by unfold Hid; rw [HNA.out, if_neg hcq]
                clear HNA hcq CMP het hei
                as_aux_lemma =>
                go_wp2_with fail
                refine D1.out.mono ?_
                rintro e w7 ⟨rfl, hb⟩
                have HB8 := Lib.hid (HBR2.out.trans (hb.mono HBR2.out.size))
                clear hb D1 hmc
                go_wp2_with fail
                go_roundg (nl.length - (j + 1))
                case measure => omega
                case rel => exact ⟨j + 1, b, by go_num, by omega, rfl, rfl, HNB.out, hbs, HB8.out⟩
            · have he : j = nl.length := by omega
              subst he
              have HBK : Hid (b.data.toList = idA (grO ns) k) := by
                unfold Hid
                rw [HBN.out, ← HNL.out, nxTo_full, HK1.out]
              have HOW6 := Lib.hid (ownsRow_below HOWN.out HBR2.out)
              have hs6 := HB6.out.size
              clear HBN HBR2 HOWN
              as_aux_lemma =>
              go_wp2_with (at_builtin; refine wpList_append2 rfl _ _ 35 rfl w.heap.size 9 i9 (.string ByteArray.empty) 1 16 Tryz.underlying35 HI.out rfl (by decide) _ _ _ rfl (World.ownsRow.alloc HOW6.out _) ⟨wr.heap.size, 0, none⟩ 1 1 [.string b] rfl rfl (cells_newAt rfl _ 9 (0, 0)) rfl (by unfold maxLen; omega) (by omega) (by simp; omega) ?_)
              intro v8 w8 hown hgrow _
              have hsz4 : (wr.alloc (.cells #[.string b] 9 (0, 0))).heap.size = wr.heap.size + 1 := by simp
              have HB8 : Hid (Below w.heap.size w w8) := (HB6.out.alloc hs6 _).grown hgrow (by rw [hsz4]; omega) fun k hk => (World.ownsRow.lt HOW6.out k hk).1
              have HO8 : Hid (w8.ownsRow w.heap.size 9 1 v8 (out ++ [b]).length ((out ++ [b]).map Value.string)) := by unfold Hid; rw [List.map_append, List.length_append]; exact hown
              have hw4 : IntKind.i64.wrap (((m : Nat) : Int) - 1) = ((m - 1 : Nat) : Int) := by
                rw [show ((m : Nat) : Int) - 1 = ((m - 1 : Nat) : Int) by omega]
                exact IntWalk.i64_in _ (by omega)
              clear hown hgrow hsz4
              go_wp2_with fail
              go_roundg (m - 1)
              case measure => omega
              case rel =>
                refine ⟨m - 1, k, out ++ [b], by go_num, rfl, by rw [HK3.out]; omega, HK4.out, HO8.out, by simp, ?_, ?_, ?_, HB8.out⟩
                · rw [List.length_append]
                  show ((out ++ [b]).getD (out.length + 1 - 1) ByteArray.empty).data.toList = _
                  rw [Nat.add_sub_cancel, List.getD, List.getElem?_append_right (Nat.le_refl _), Nat.sub_self]
                  exact HBK.out
                · have := HWAY.out
                  rw [HK2.out] at this
                  unfold dts at this ⊢
                  rw [List.map_append, List.append_assoc]
                  show _ ++ (b.data.toList :: _) = _
                  rw [HBK.out]
                  exact this
                · rw [List.length_append, HL.out]
                  show out.length + 1 + (m - 1) ≤ _
                  omega
        · have he : m = 0 := by omega
          subst he
          have HFIN : Hid (dts out = cycleF (grO ns)) := by
            unfold Hid
            rw [HV.out, ← HWAY.out, wayF_zero, List.append_nil]
          clear HWAY HLA HDI
          as_aux_lemma =>
          go_wp2_with fail
          go_ret
          exact ⟨_, out, rfl, StrsAt.of_row HOWN.out, HFIN.out, HBR.out⟩
  · have HV : Hid (cycleF (grO ns) = []) := by unfold Hid cycleF; rw [if_pos h1]
    have h2i : (((formedF (grO ns) : Nat) : Int) != 0) = true := by simp; exact h1
    clear h1 SA DA FA
    generalize formedF (grO ns) = fo at *
    as_aux_lemma =>
    go_wp2_with fail
    refine HF.out.mono ?_
    rintro e w1 ⟨rfl, hb⟩
    have HB := Lib.hid hb
    clear hb HF
    go_wp2_with fail
    go_ret
    exact ⟨_, [], rfl, .inl ⟨_, _, rfl, rfl⟩, by rw [HV.out]; rfl, HB.out⟩
end Go.Proofs.YtfegmmafcopbpaaGreatDoor
