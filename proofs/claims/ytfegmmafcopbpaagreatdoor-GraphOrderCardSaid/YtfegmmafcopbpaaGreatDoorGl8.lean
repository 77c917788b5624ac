/- The law GraphOrder: turned, cyclic, the law's walk. -/
import Derived.Test.YtfegmmafcopbpaaGreatDoorGl2
import Derived.Test.YtfegmmafcopbpaaGreatDoorGd4
import Derived.Test.YtfegmmafcopbpaaGreatDoorRg5
import Derived.Test.YtfegmmafcopbpaaGreatDoorRg4
import Derived.Test.YtfegmmafcopbpaaGreatDoorGl3
/- The walk over the law's turned: the nodes from an index on, then the others, each with its needs turned around. -/
namespace Go.Proofs.YtfegmmafcopbpaaGreatDoor
open Go.RowKit

theorem tmod_natT (a b : Nat) : Int.tmod (a : Int) (b : Int) = ((a % b : Nat) : Int) := by
  rw [Int.tmod_eq_emod_of_nonneg (by omega)]
  rfl
theorem turnG_at (ns : List Nd) {a i : Nat} (ha : a < ns.length) (hi : i < ns.length) : (turnG (grO ns) a)[i]? = some ((ns.getD ((a + i) % ns.length) default).id.data.toList, (dts (ns.getD ((a + i) % ns.length) default).needs).reverse) := by
  have hm : (a + i) % ns.length < ns.length := Nat.mod_lt _ (by omega)
  unfold turnG
  rw [List.getElem?_map, turn_get (grO ns) (by rw [grO_len]; exact ha) (by rw [grO_len]; exact hi), grO_len, grO_at ns hm]
  rfl

def TurPost (ns : List Nd) (a : Nat) (w : World) (e : Ending) (w' : World) : Prop := ∃ v os, e = .returned v ∧ NdAt w' v os ∧ grO os = turnG (grO ns) a ∧ Below w.heap.size w w'
def TurRel (w1 : World) (ns : List Nd) (a : Nat) (f : Nat) (t5 t6 _t7 _t8 _t9 : Value) (wr : World) : Prop :=
  ∃ (i : Nat) (os : List Nd), t6 = .int .i64 (i : Nat) ∧ i ≤ ns.length ∧ f = ns.length - i ∧ os.length = i ∧ grO os = (turnG (grO ns) a).take i ∧
    wr.ownsRow w1.heap.size 48 2 t5 os.length (os.flatMap Nd.cells) ∧ (∀ x ∈ os, wr.ownsRow w1.heap.size 9 1 x.nv x.needs.length (x.needs.map Value.string) ∧ ∀ k, x.nv.ownBlock = some k → t5.ownBlock ≠ some k) ∧ Below w1.heap.size w1 wr
def TurIn (wo : World) (nl : List ByteArray) (f : Nat) (t8 t9 : Value) (wr : World) : Prop :=
  ∃ j : Nat, t9 = .int .i64 ((j : Int) - 1) ∧ j ≤ nl.length ∧ j = f ∧ wr.ownsRow wo.heap.size 9 1 t8 ((nl.drop j).reverse).length (((nl.drop j).reverse).map Value.string) ∧ Below wo.heap.size wo wr
theorem drop_rev (nl : List ByteArray) {j : Nat} (hj : j < nl.length) : (nl.drop j).reverse = (nl.drop (j + 1)).reverse ++ [nl.getD j ByteArray.empty] := by
  rw [List.drop_eq_getElem_cons hj, List.reverse_cons, List.getD, List.getElem?_eq_getElem hj]
  rfl

set_option maxRecDepth 100000 in
set_option maxHeartbeats 6400000 in
theorem turned_any (nv : Value) (ns : List Nd) (a : Nat) (ha : a < ns.length) (hl : ns.length ≤ 1000) (hnl : ∀ x ∈ ns, x.needs.length ≤ 1000) (w : World) (hN : NdAt w nv ns) :
    Calls Tryz.prog 29 #[nv, .int .i64 (a : Nat)] w (TurPost ns a w) := by
  have HN := Lib.hid hN
  have HNN := Lib.hid hnl
  have HL := Lib.hid (grO_len ns)
  obtain ⟨ao, cap, rfl⟩ := hN.sl.form
  obtain ⟨i48, hi48⟩ := Tryz.info48'
  obtain ⟨i9, hi9⟩ := Tryz.info9'
  have HI := Lib.hid hi48
  have HI9 := Lib.hid hi9
  clear hN hnl hi48 hi9
  go_enter Tryz.func29, Tryz.ntmps29
  go_wp2_with fail
  go_loopg [5, 6, 7, 8, 9] ns.length (TurRel w ns a)
  case atStart => exact ⟨0, [], rfl, Nat.zero_le _, rfl, rfl, rfl, World.ownsRow_nil _ _ _ _, fun x hx => (by cases hx), Below.refl _ _⟩
  case round =>
    obtain ⟨i, os, rfl, hi, rfl, hol, hos, hown, hst, hbr⟩ := hrel
    have HOL := Lib.hid hol
    have HOS := Lib.hid hos
    have HROW := Lib.hid hown
    have HST := Lib.hid hst
    have HBR := Lib.hid hbr
    have hbs := hbr.size
    obtain ⟨rao, rcap, rfl⟩ := ownsRow_form hown
    clear hol hos hown hst hbr
    by_cases hlt : i < ns.length
    · have hii : ((i : Nat) : Int) < (ns.length : Int) := by omega
      have hr : (a + i) % ns.length < ns.length := Nat.mod_lt _ (by omega)
      have HTI := Lib.hid (tmod_natT (a + i) ns.length)
      have HTA := Lib.hid (turnG_at ns ha hlt)
      obtain ⟨nb, noff, rfl, hnb, hc0, hc1, hsx⟩ := (HN.out.below HBR.out).at2 hr
      have hln := HNN.out (ns.getD ((a + i) % ns.length) default) (by rw [List.getD, List.getElem?_eq_getElem hr]; exact List.getElem_mem hr)
      have HSX := Lib.hid hsx
      obtain ⟨xao, xcap, hxe⟩ := hsx.form
      rw [hxe] at hc1 HSX
      clear hxe hsx
      generalize (ns.getD ((a + i) % ns.length) default).id = x at *
      generalize (ns.getD ((a + i) % ns.length) default).needs = nl at *
      generalize (a + i) % ns.length = r at *
      have hri : ((r : Nat) : Int) < (ns.length : Int) := by omega
      have hr0 : (0 : Int) ≤ ((r : Nat) : Int) := by omega
      have hti : Int.tmod (((a : Nat) : Int) + ((i : Nat) : Int)) (ns.length : Int) = ((r : Nat) : Int) := by have := HTI.out; rwa [Int.natCast_add] at this
      have hnz : (ns.length : Int) ≠ 0 := by omega
      go_upto_region 6 with fail
      have HB2 : Hid (Below w.heap.size w (wr.alloc (.cells #[.string x, .slice xao nl.length xcap] 48))) := HBR.out.alloc hbs _
      have HBL : Hid ((wr.alloc (.cells #[.string x, .slice xao nl.length xcap] 48)).heap[wr.heap.size]? = some (.cells #[.string x, .slice xao nl.length xcap] 48 (0, 0))) := hp_new rfl
      have hsz2 : (wr.alloc (.cells #[.string x, .slice xao nl.length xcap] 48)).heap.size = wr.heap.size + 1 := by simp
      have HRW : Hid (Below wr.heap.size wr (wr.alloc (.cells #[.string x, .slice xao nl.length xcap] 48))) := (Below.refl _ wr).alloc (Nat.le_refl _) _
      have HSZ2 := Lib.hid hsz2
      have HROW2 := Lib.hid (ownsRow_below HROW.out HRW.out)
      have HST2 : Hid (∀ y ∈ os, (wr.alloc (.cells #[.string x, .slice xao nl.length xcap] 48)).ownsRow w.heap.size 9 1 y.nv y.needs.length (y.needs.map Value.string) ∧ ∀ k, y.nv.ownBlock = some k → (Value.slice rao os.length rcap).ownBlock ≠ some k) := fun y hy => ⟨ownsRow_below (HST.out y hy).1 HRW.out, (HST.out y hy).2⟩
      clear hsz2 hc0 hc1 hti HROW HST
      generalize (wr.alloc (.cells #[.string x, .slice xao nl.length xcap] 48)) = w2 at *
      have hbx : wr.heap.size < w2.heap.size := by have := HSZ2.out; omega
      have HXC : Hid (∀ W, Below w2.heap.size w2 W → W.cell? ⟨wr.heap.size, 0, none⟩ = some (.string x) ∧ W.cell? ⟨wr.heap.size, 1, none⟩ = some (.slice xao nl.length xcap)) := fun W hW =>
        ⟨(hW.cell (p := ⟨wr.heap.size, 0, none⟩) hbx).trans (by rw [cell_of_blk HBL.out]; rfl), (hW.cell (p := ⟨wr.heap.size, 1, none⟩) hbx).trans (by rw [cell_of_blk HBL.out]; rfl)⟩
      obtain ⟨hx0, hx1⟩ := HXC.out w2 (Below.refl _ _)
      have HSX2 : Hid (∀ W, Below w2.heap.size w2 W → StrsAt W (.slice xao nl.length xcap) nl) := fun W hW => HSX.out.below (HRW.out.trans (hW.mono HRW.out.size))
      have hws2 := HB2.out.size
      generalize hbk : wr.heap.size = bk at *
      have HBK := Lib.hid hbk
      clear hbk
      have q1 : IntKind.i64.wrap ((nl.length : Int) - 1) = (nl.length : Int) - 1 := IntWalk.i64_in _ (by omega)
      go_wp2_with fail
      clear hx0 hx1
      go_loopg [8, 9] nl.length (TurIn w2 nl)
      case atStart => exact ⟨nl.length, rfl, Nat.le_refl _, rfl, by rw [List.drop_length]; exact World.ownsRow_nil _ _ _ _, Below.refl _ _⟩
      case round =>
        obtain ⟨j, rfl, hj, rfl, hown, hb3⟩ := hrel
        have HO8 := Lib.hid hown
        have HB3 := Lib.hid hb3
        have hs3 := hb3.size
        obtain ⟨a8, c8, rfl⟩ := ownsRow_form hown
        obtain ⟨hx0, hx1⟩ := HXC.out _ hb3
        clear hown hb3
        by_cases hj0 : 0 < j
        · have hj1 : (1 : Int) ≤ ((j : Nat) : Int) := by omega
          have hjl : j - 1 < nl.length := by omega
          obtain ⟨yb, yoff, rfl, hyb, hyc⟩ := (HSX2.out _ HB3.out).at_ hjl
          have HDR := Lib.hid (drop_rev nl hjl)
          rw [show j - 1 + 1 = j by omega] at HDR
          have hrl : ((nl.drop j).reverse).length ≤ 1000 := by simp; omega
          have q2 : (0 : Int) ≤ ((j : Nat) : Int) - 1 := by omega
          have q3 : (((j : Nat) : Int) - 1).toNat = j - 1 := by omega
          have q4 : ((j : Nat) : Int) - 1 < (nl.length : Int) := by omega
          have q5 : IntKind.i64.wrap (((j : Nat) : Int) - 1 - 1) = (((j - 1 : Nat) : Int) - 1) := by rw [show (((j : Nat) : Int) - 1 - 1) = (((j - 1 : Nat) : Int) - 1) by omega]; exact IntWalk.i64_in _ (by omega)
          generalize nl.getD (j - 1) ByteArray.empty = y at *
          generalize hrs : (nl.drop j).reverse = rs at *
          clear hrs
          as_aux_lemma =>
          go_wp2_with (at_builtin; refine wpList_append2 rfl _ _ 35 rfl w2.heap.size 9 i9 (.string ByteArray.empty) 1 16 Tryz.underlying35 HI9.out rfl (by decide) _ _ _ rfl (World.ownsRow.alloc HO8.out _) ⟨_, 0, none⟩ 1 1 [.string y] rfl rfl (cells_newAt rfl _ 9 (0, 0)) rfl (by unfold maxLen; omega) (by omega) (by simp; omega) ?_)
          intro v6 w6 hown hgrow _
          have hsz4 : (wr.alloc (.cells #[.string y] 9 (0, 0))).heap.size = wr.heap.size + 1 := by simp
          have HB6 : Hid (Below w2.heap.size w2 w6) := (HB3.out.alloc hs3 _).grown hgrow (by rw [hsz4]; omega) fun k hk => (World.ownsRow.lt HO8.out k hk).1
          have HO6 : Hid (w6.ownsRow w2.heap.size 9 1 v6 ((nl.drop (j - 1)).reverse).length (((nl.drop (j - 1)).reverse).map Value.string)) := by unfold Hid; rw [HDR.out, List.map_append, List.length_append]; exact hown
          clear hown hgrow hsz4 hyc hx0 hx1
          go_wp2_with fail
          go_roundg (j - 1)
          case measure => omega
          case rel => exact ⟨j - 1, by first | rfl | go_num, by omega, rfl, HO6.out, HB6.out⟩
        · have he : j = 0 := by omega
          subst he
          rw [List.drop_zero] at HO8 ⊢
          have hrl : (nl.reverse).length ≤ 1000 := by simp; omega
          have HOK : Hid (os.length ≤ 1000) := by have := HOL.out; unfold Hid; omega
          have HBT := Lib.hid (HB2.out.trans (HB3.out.mono hws2))
          have HTS : Hid ((turnG (grO ns) a).take (i + 1) = grO (os ++ [⟨x, .slice a8 (nl.reverse).length c8, nl.reverse⟩])) := by
            unfold Hid
            rw [List.take_add_one, HTA.out, grO_add, HOS.out]
            simp [dts]
          have HR3 := Lib.hid (ownsRow_below HROW2.out HB3.out)
          have HST3 : Hid (∀ y ∈ os, wr.ownsRow w.heap.size 9 1 y.nv y.needs.length (y.needs.map Value.string) ∧ ∀ k, y.nv.ownBlock = some k → (Value.slice rao os.length rcap).ownBlock ≠ some k) := fun y hy => ⟨ownsRow_below (HST2.out y hy).1 HB3.out, (HST2.out y hy).2⟩
          have HRV := Lib.hid (ownsRow_base HO8.out (show w.heap.size ≤ w2.heap.size from hws2))
          have HRVK := Lib.hid (fun kk h => (World.ownsRow.lt HO8.out kk h).1)
          have HRK := Lib.hid (fun kk h => (World.ownsRow.lt HROW2.out kk h))
          have hol : os.length + 1 ≤ 1001 := by have := HOK.out; omega
          have hwsr := HBT.out.size
          clear HROW2 HST2 HO8 HRW HXC HSX HSX2 HTA
          generalize nl.reverse = rs at *
          go_wp2_with (at_builtin; refine wpList_append2 rfl _ _ 22 rfl w.heap.size 48 i48 (.agg #[.string ByteArray.empty, .slice none 0 0]) 2 40 Tryz.underlying22 HI.out rfl (by decide) _ _ _ rfl (World.ownsRow.alloc HR3.out _) ⟨wr.heap.size, 0, none⟩ 1 1 [.string x, .slice a8 rs.length c8] rfl rfl (World.news_of_block (cs := #[.string x, .slice a8 rs.length c8]) (t := 48) (fr := (0, 0)) (by exact hp_new rfl)) rfl (by unfold maxLen; omega) (by omega) (by simp; omega) ?_)
          intro v3 wb hown hgrow hat
          obtain ⟨g1, cap1, rfl⟩ := ownsRow_form hown
          have HREL : Hid (TurRel w ns a (ns.length - (i + 1)) (.slice g1 (os.length + 1) cap1) (.int .i64 ((i + 1 : Nat) : Int)) (.int .i64 0) (.int .i64 0) (.int .i64 0) wb) := by
            refine ⟨i + 1, os ++ [⟨x, .slice a8 rs.length c8, rs⟩], rfl, hlt, rfl, by rw [List.length_append, HOL.out]; rfl, HTS.out.symm, ?_, ?_, ?_⟩
            · have := hown
              simp only [List.flatMap_append, List.length_append, List.length_cons, List.length_nil, List.flatMap_cons, List.flatMap_nil, List.append_nil]
              exact this
            · intro y hy
              rcases List.mem_append.1 hy with hy | hy
              · obtain ⟨h1, h2⟩ := HST3.out y hy
                have hlt3 : ∀ kk, y.nv.ownBlock = some kk → kk < wr.heap.size := fun kk h => (World.ownsRow.lt h1 kk h).2
                refine ⟨(World.ownsRow.alloc h1 _).kept hgrow ?_, fun kk hk2 e => ?_⟩
                · cases ho : y.nv.ownBlock with
                  | none => exact .inl rfl
                  | some kk => exact .inr fun e => h2 kk ho e.symm
                · rcases hat with h | h
                  · rw [h] at e; exact h2 kk hk2 e
                  · rw [h] at e
                    have := hlt3 kk hk2
                    injection e with e
                    first | omega | (simp at e; omega) | (subst e; simp at this; omega)
              · simp at hy
                subst hy
                refine ⟨(World.ownsRow.alloc HRV.out _).kept hgrow ?_, fun kk hk2 e => ?_⟩
                · cases ho : (Value.slice a8 rs.length c8).ownBlock with
                  | none => exact .inl rfl
                  | some kk => exact .inr fun e => Nat.lt_irrefl kk (Nat.lt_of_lt_of_le (HRK.out kk e.symm).2 (HRVK.out kk ho))
                · rcases hat with h | h
                  · rw [h] at e
                    have h5 := (HRK.out kk e).2
                    have h6 := HRVK.out kk hk2
                    omega
                  · rw [h] at e
                    have h6 := (World.ownsRow.lt HRV.out kk hk2).2
                    injection e with e
                    first | omega | (simp at e; omega) | (subst e; simp at h6; omega)
            · exact (HBT.out.alloc hwsr _).grown hgrow (by simp; omega) fun kk h => (HRK.out kk h).1
          clear hown hgrow hat hx0 hx1 HR3 HST3 HRV HRVK HRK HTS
          as_aux_lemma =>
          go_wp2_with fail
          go_roundg (ns.length - (i + 1))
          case measure => omega
          case rel =>
            obtain ⟨i', os', h1, h2⟩ := HREL.out
            exact ⟨i', os', by first | exact h1 | (rw [← h1]; go_num), h2⟩
    · have he : i = ns.length := by omega
      have HFIN : Hid (NdAt wr (.slice rao os.length rcap) os ∧ grO os = turnG (grO ns) a) := by
        refine ⟨⟨SlAt.of_row HROW.out nd_len (by omega), fun y hy => StrsAt.of_row (HST.out y hy).1⟩, ?_⟩
        rw [HOS.out, he, List.take_of_length_le (by rw [turn_len, HL.out]; exact Nat.le_refl _)]
      have hni : ¬ ((i : Nat) : Int) < (ns.length : Int) := by omega
      clear he
      as_aux_lemma =>
      go_wp2_with fail
      go_ret
      exact ⟨_, os, rfl, HFIN.out.1, HFIN.out.2, HBR.out⟩
end Go.Proofs.YtfegmmafcopbpaaGreatDoor
/- The walk over the law's cyclic. -/
namespace Go.Proofs.YtfegmmafcopbpaaGreatDoor
open Go.RowKit

def CycPost (w : World) (e : Ending) (w' : World) : Prop := e = .returned (.bool true) ∧ ∃ q, w' = w.drewN q
def CycRel (w1 : World) (c : List Bs) (f : Nat) (t5 _t6 : Value) (wr : World) : Prop :=
  ∃ i : Nat, t5 = .int .i64 (i : Nat) ∧ i ≤ c.length ∧ f = c.length - i ∧ ∃ q, wr = w1.drewN q
theorem tmod_natC (a b : Nat) : Int.tmod (a : Int) (b : Int) = ((a % b : Nat) : Int) := by
  rw [Int.tmod_eq_emod_of_nonneg (by omega)]
  rfl

set_option maxRecDepth 100000 in
set_option maxHeartbeats 3200000 in
/-- names that are a cycle are found to be one -/
theorem cyclic_any (nv cv : Value) (ns : List Nd) (ss : List ByteArray) (hl : ns.length ≤ 1000) (hnl : ∀ x ∈ ns, x.needs.length ≤ 1000000) (hsl : ss.length ≤ 1000) (hc : CycB (grO ns) (dts ss)) (w : World) (hN : NdAt w nv ns) (hS : StrsAt w cv ss) :
    Calls Tryz.prog 30 #[nv, cv] w (CycPost w) := by
  have HN := Lib.hid hN
  have HS := Lib.hid hS
  have HNN := Lib.hid hnl
  have HC := Lib.hid hc
  have HL := Lib.hid (grO_len ns)
  have HDL := Lib.hid (dts_len ss)
  have hpos : 0 < ss.length := Nat.pos_of_ne_zero fun e => hc.1 (List.length_eq_zero_iff.1 (by rw [dts_len]; exact e))
  obtain ⟨ao, cap, rfl⟩ := hN.sl.form
  obtain ⟨cao, ccap, rfl⟩ := hS.form
  clear hN hS hnl hc
  go_enter Tryz.func30, Tryz.ntmps30
  go_wp2_with fail
  go_loopg [5, 6] ss.length (CycRel w (dts ss))
  case atStart => exact ⟨0, rfl, Nat.zero_le _, by rw [HDL.out]; rfl, 0, rfl⟩
  case round =>
    obtain ⟨i, rfl, hi, hff, hq⟩ := hrel
    rw [HDL.out] at hi hff
    subst hff
    have HQ := Lib.hid hq
    have hb := below_ex hq
    have hns := HN.out.below hb
    have hss := HS.out.below hb
    clear hq
    by_cases hlt : i < ss.length
    · have hii : ((i : Nat) : Int) < (ss.length : Int) := by omega
      have hxi := dts_at ss hlt
      obtain ⟨hcm, hcn, hcx⟩ := HC.out.2 i _ hxi
      have hk : posG (grO ns) (ss.getD i ByteArray.empty).data.toList < ns.length := by have := posG_lt hcm; rwa [HL.out] at this
      have hr : (i + 1) % ss.length < ss.length := Nat.mod_lt _ hpos
      have hyi := dts_at ss hr
      have hneed := hcx _ (by rw [HDL.out]; exact hyi)
      have F1 := Lib.hid (find_any _ ns (ss.getD i ByteArray.empty) (by omega) wr hns)
      rw [find_pos hcm] at F1
      obtain ⟨sb, soff, rfl, hsb, hsc⟩ := hss.at_ hlt
      obtain ⟨sb', soff', e', _, hsc2⟩ := hss.at_ hr
      injection e' with e'
      injection e' with e1 e2
      subst e1 e2
      obtain ⟨nb, noff, rfl, hnb, _, hnc, hsx⟩ := hns.at2 hk
      rw [grO_need ns hk] at hneed
      have hln := HNN.out (ns.getD (posG (grO ns) (ss.getD i ByteArray.empty).data.toList) default) (by rw [List.getD, List.getElem?_eq_getElem hk]; exact List.getElem_mem hk)
      obtain ⟨xao, xcap, hxe⟩ := hsx.form
      rw [hxe] at hnc hsx
      have HDT : dts (ss.take i) = (dts ss).take i := by unfold dts; rw [List.map_take]
      have hcap := hss.lenle hpos
      have HA1 := fun nq => has_any _ _ (ss.getD i ByteArray.empty) (by rw [List.length_take]; omega) (wr.drewN nq) ((StrsAt.takeR hss (Nat.le_of_lt hlt)).below (below_drewN wr nq))
      have HA2 := fun nq => has_any _ _ (ss.getD ((i + 1) % ss.length) ByteArray.empty) (by omega) (wr.drewN nq) (hsx.below (below_drewN wr nq))
      rw [HDT, decide_eq_false hcn] at HA1
      rw [decide_eq_true (show (ss.getD ((i + 1) % ss.length) ByteArray.empty).data.toList ∈ dts (ns.getD (posG (grO ns) (ss.getD i ByteArray.empty).data.toList) default).needs from hneed)] at HA2
      have HB1 := fun nq => Lib.hid (Calls.quiet_of_same (HA1 nq))
      have HB2 := fun nq => Lib.hid (Calls.quiet_of_same (HA2 nq))
      have HTM := Lib.hid (tmod_natC (i + 1) ss.length)
      clear hxe hsx HA1 HA2 hxi hyi hcm hcn hcx hneed HDT hns hss
      generalize (ns.getD (posG (grO ns) (ss.getD i ByteArray.empty).data.toList) default).needs = nl at *
      generalize posG (grO ns) (ss.getD i ByteArray.empty).data.toList = k at *
      generalize ss.getD i ByteArray.empty = x at *
      generalize ss.getD ((i + 1) % ss.length) ByteArray.empty = y at *
      generalize (i + 1) % ss.length = r at *
      have hki : ((k : Nat) : Int) < (ns.length : Int) := by omega
      have hk0 : decide (((k : Nat) : Int) < 0) = false := decide_eq_false (by omega)
      have hk0' : (0 : Int) ≤ ((k : Nat) : Int) := by omega
      have hri : ((r : Nat) : Int) < (ss.length : Int) := by omega
      have hr0 : (0 : Int) ≤ ((r : Nat) : Int) := by omega
      have hic : ((i : Nat) : Int) ≤ (ccap : Int) := by omega
      have hti : Int.tmod (((i : Nat) : Int) + 1) (ss.length : Int) = ((r : Nat) : Int) := by have := HTM.out; rwa [Int.natCast_add] at this
      have hnz : (ss.length : Int) ≠ 0 := by omega
      go_wp2_with fail
      refine F1.out.mono ?_
      rintro e w4 ⟨rfl, rfl⟩
      go_upto_region 5 with fail
      go_quiet ((go_at_call 32; first | (with_reducible exact (HB1 _).out) | (with_reducible exact (HB2 _).out)))
      go_wp2_with fail
      go_roundg (ss.length - (i + 1))
      case measure => omega
      case rel => exact ⟨i + 1, by go_num, by rw [HDL.out]; omega, by rw [HDL.out], ex_trans HQ.out ⟨_, rfl⟩⟩
    · have he : i = ss.length := by omega
      have hni : ¬ ((i : Nat) : Int) < (ss.length : Int) := by omega
      have hgt : (0 : Int) < (ss.length : Int) := by omega
      clear he
      as_aux_lemma =>
      go_wp2_with fail
      go_ret
      exact ⟨rfl, HQ.out⟩
end Go.Proofs.YtfegmmafcopbpaaGreatDoor
/- The reference's Same only reads: its world only draws. -/
namespace Go.Proofs.YtfegmmafcopbpaaGreatDoor
open Go.RowKit

def SameQRel (w1 : World) (xs ys : List ByteArray) (f : Nat) (t5 : Value) (wr : World) : Prop :=
  ∃ k : Nat, t5 = .int .i64 (k : Nat) ∧ k ≤ xs.length ∧ f = xs.length - k ∧ sameTo xs ys k ∧ ∃ q, wr = w1.drewN q
set_option maxRecDepth 100000 in
set_option maxHeartbeats 1600000 in
theorem same18q_any (u v : Value) (xs ys : List ByteArray) (hl : xs.length ≤ 1000000) (w : World) (h : StrsAt w u xs) (k : StrsAt w v ys) : Calls Tryz.prog 18 #[u, v] w fun e w' => e = .returned (.bool (decide (xs = ys))) ∧ ∃ q, w' = w.drewN q := by
  obtain ⟨ao, cap, rfl⟩ := h.form
  obtain ⟨bo, cbp, rfl⟩ := k.form
  have H := Lib.hid h
  have K := Lib.hid k
  clear h k
  go_enter Tryz.func18, Tryz.ntmps18
  by_cases hne : xs.length = ys.length
  · have t1 : ((xs.length : Int) != (ys.length : Int)) = false := by simp; omega
    have HSA := Lib.hid (sameTo_all hne)
    go_wp2_with fail
    go_loopg [5] xs.length (SameQRel w xs ys)
    case atStart => exact ⟨0, rfl, Nat.zero_le _, rfl, fun j hj => by omega, 0, rfl⟩
    case round =>
      obtain ⟨k, rfl, hk, rfl, hall, hbel⟩ := hrel
      have HALL := Lib.hid hall
      have HB := Lib.hid hbel
      clear hall hbel
      by_cases hlt : k < xs.length
      · obtain ⟨b, off, rfl, hbl, hc⟩ := (H.out.below (below_ex HB.out)).at_ hlt
        obtain ⟨b2, off2, rfl, hbl2, hc2⟩ := (K.out.below (below_ex HB.out)).at_ (show k < ys.length by omega)
        have hii : (k : Int) < (xs.length : Int) := by omega
        have hjj : (k : Int) < (ys.length : Int) := by omega
        have HK : Hid (xs.getD k ByteArray.empty = ys.getD k ByteArray.empty → sameTo xs ys (k + 1)) := fun h j hj => by
          by_cases e : j = k
          · subst e; exact h
          · exact HALL.out j (by omega)
        have HK2 : Hid (¬ xs.getD k ByteArray.empty = ys.getD k ByteArray.empty → ¬ xs = ys) := fun h e => h (by rw [e])
        generalize xs.getD k ByteArray.empty = x at *
        generalize ys.getD k ByteArray.empty = y at *
        have hxy := tl_eq x y
        clear hne
        by_cases he : x = y
        · have HF := Lib.hid (HK.out he)
          have t2 : (!x.toList == y.toList) = false := by rw [hxy, decide_eq_true he]; rfl
          clear he HK HK2 hxy
          as_aux_lemma =>
          go_upto_region 6 with fail
          go_quiet (fail)
          go_wp2_with fail
          go_roundg (xs.length - (k + 1))
          case measure => omega
          case rel => exact ⟨k + 1, by go_num, by omega, rfl, HF.out, ex_trans HB.out ⟨_, rfl⟩⟩
        · have HF := Lib.hid (HK2.out he)
          have t2 : (!x.toList == y.toList) = true := by rw [hxy, decide_eq_false he]; rfl
          clear he HK HK2 hxy
          as_aux_lemma =>
          go_upto_region 6 with fail
          go_quiet (fail)
          go_wp2_with fail
          go_ret
          exact ⟨by rw [decide_eq_false HF.out]; rfl, ex_trans HB.out ⟨_, rfl⟩⟩
      · have he : k = xs.length := by omega
        subst he
        have HF := Lib.hid (HSA.out.1 HALL.out)
        clear hne
        go_wp2_with fail
        go_ret
        exact ⟨by rw [decide_eq_true HF.out]; rfl, HB.out⟩
  · have t1 : ((xs.length : Int) != (ys.length : Int)) = true := by rw [bne_iff_ne]; omega
    have HF : Hid (¬ xs = ys) := fun h => hne (by rw [h])
    clear hne
    go_wp2_with fail
    go_ret
    exact ⟨by rw [decide_eq_false HF.out]; rfl, 0, rfl⟩

theorem rsameq_any (u v : Value) (xs ys : List ByteArray) (hl : xs.length ≤ 1000000) (w : World) (h : StrsAt w u xs) (k : StrsAt w v ys) : Calls Tryz.prog 18 #[u, v] w fun e w' => e = .returned (.bool (decide (dts xs = dts ys))) ∧ ∃ q, w' = w.drewN q := by
  have h0 : decide (xs = ys) = decide (dts xs = dts ys) := decide_eq_decide.2 dts_eq
  rw [← h0]
  exact same18q_any u v xs ys hl w h k
end Go.Proofs.YtfegmmafcopbpaaGreatDoor
/- The law GraphOrder: its walk. -/
namespace Go.Proofs.YtfegmmafcopbpaaGreatDoor
open Go.RowKit

theorem wrap64_inG {z : Int} (h1 : -9223372036854775808 ≤ z) (h2 : z ≤ 9223372036854775807) : wrap64 z = z := by unfold wrap64; omega
theorem smallTo_needs {most : Nat} (hm : most ≤ 100000) : ∀ (l : List Nd) (n : Int), 0 ≤ n → (∀ x ∈ l, x.needs.length ≤ 8796093022208) → smallTo (most : Nat) n l = true → ∀ x ∈ l, x.needs.length ≤ most
  | [], _, _, _, _ => fun x hx => by cases hx
  | y :: r, n, hn, hb, h => by
    have h1 := smallTo_le h
    have hy := hb y (by simp)
    rw [smallTo_step h1, wrap64_inG (by omega) (by omega)] at h
    have h2 := smallTo_le h
    intro x hx
    rcases List.mem_cons.1 hx with rfl | hx
    · omega
    · exact smallTo_needs hm r _ (by omega) (fun z hz => hb z (by simp [hz])) h x hx
theorem small_needs {ns : List Nd} {most : Nat} (hm : most ≤ 100000) (hb : ∀ x ∈ ns, x.needs.length ≤ 8796093022208) (h : smallF ns most = true) : ∀ x ∈ ns, x.needs.length ≤ most := smallTo_needs hm ns _ (by omega) hb h
theorem turn_needs {ns os : List Nd} {a m : Nat} (h : grO os = turnG (grO ns) a) (hb : ∀ x ∈ ns, x.needs.length ≤ m) : os.length = ns.length ∧ ∀ x ∈ os, x.needs.length ≤ m := by
  refine ⟨?_, fun x hx => ?_⟩
  · have := congrArg List.length h
    rwa [grO_len, turn_len, grO_len] at this
  · have h1 : (x.id.data.toList, x.needs.map (·.data.toList)) ∈ grO os := List.mem_map.2 ⟨x, hx, rfl⟩
    rw [h] at h1
    obtain ⟨y, hy, e⟩ := mem_turn.1 h1
    obtain ⟨z, hz, rfl⟩ := List.mem_map.1 hy
    injection e with _ e
    have h2 := congrArg List.length e
    simp at h2
    have := hb z hz
    omega

theorem take_nodup {c : List Bs} (h : ∀ i b, c[i]? = some b → b ∉ c.take i) : ∀ k, k ≤ c.length → (c.take k).Nodup
  | 0, _ => by rw [List.take_zero]; exact List.nodup_nil
  | k + 1, hk => by
    have hlt : k < c.length := by omega
    rw [List.take_add_one, List.getElem?_eq_getElem hlt]
    simp only [Option.toList_some]
    rw [List.nodup_append]
    refine ⟨take_nodup h k (by omega), by simp, fun a ha b hb => ?_⟩
    simp at hb
    subst hb
    rintro rfl
    exact h k _ (List.getElem?_eq_getElem hlt) ha
theorem cyc_len {G : Gr} {c : List Bs} (h : CycB G c) : c.length ≤ G.length := by
  have hn := take_nodup (fun i b hb => (h.2 i b hb).2.1) c.length (Nat.le_refl _)
  rw [List.take_length] at hn
  have := nodup_le (idsG G) c hn (fun q hq => by
    obtain ⟨i, hi, rfl⟩ := List.getElem_of_mem hq
    exact (h.2 i _ (List.getElem?_eq_getElem hi)).1)
  rwa [ids_len] at this
theorem names_mem {G : Gr} (hs : Sound G) {L : List Nat} (hl : ∀ k ∈ L, k < G.length) (hn : L.Nodup) : (namesG G L).Nodup := by
  unfold namesG
  rw [List.Nodup, List.pairwise_map]
  exact hn.imp_of_mem fun ha hb hne e => hne (idA_inj hs.nodup (hl _ ha) (hl _ hb) e)
theorem nodup_take {l : List Bs} (hn : l.Nodup) {i : Nat} {b : Bs} (h : l[i]? = some b) : b ∉ l.take i := by
  obtain ⟨hi, rfl⟩ := List.getElem?_eq_some_iff.1 h
  intro hm
  obtain ⟨j, hj, e⟩ := List.getElem_of_mem hm
  rw [List.getElem_take] at e
  have hji : j < i := by rw [List.length_take] at hj; omega
  exact List.pairwise_iff_getElem.1 hn j i (by omega) hi hji e
/-- the order's names, one by one -/
theorem ord_facts {G : Gr} (hs : Sound G) {i : Nat} {b : Bs} (h : (namesG G (ordG G))[i]? = some b) :
    b ∈ idsG G ∧ b ∉ (namesG G (ordG G)).take i ∧ (∀ c ∈ needA G (posG G b), c ∈ (namesG G (ordG G)).take i) ∧ (orderF G)[i]? = some (b, needA G (posG G b)) := by
  have hlt := (ordG_listed G).lt
  have hn := names_mem hs hlt (ordG_listed G).nodup
  refine ⟨?_, nodup_take hn h, ?_, ?_⟩
  · obtain ⟨k, hk, rfl⟩ := List.mem_map.1 (List.mem_of_getElem? h)
    exact idA_mem (hlt k hk)
  · unfold namesG at h ⊢
    rw [List.getElem?_map] at h
    cases hk : (ordG G)[i]? with
    | none => rw [hk] at h; cases h
    | some k =>
      rw [hk] at h
      simp only [Option.map_some, Option.some.injEq] at h
      subst h
      have hkm := List.mem_of_getElem? hk
      rw [posG_id hs.nodup (hlt k hkm)]
      obtain ⟨hi, e⟩ := List.getElem?_eq_some_iff.1 hk
      intro c hc
      have h1 := ordG_ahead G ((ordG G).take i) ((ordG G).drop (i + 1)) k (by
        conv => lhs; rw [← List.take_append_drop i (ordG G), List.drop_eq_getElem_cons hi, e]) _ (ab_of_need hc)
      rw [← List.map_take]
      exact List.mem_map.2 ⟨_, h1, idA_pos (hs.need hc)⟩
  · unfold namesG at h
    unfold orderF
    rw [List.getElem?_map] at h ⊢
    cases hk : (ordG G)[i]? with
    | none => rw [hk] at h; cases h
    | some k =>
      rw [hk] at h
      simp only [Option.map_some, Option.some.injEq] at h
      subst h
      simp only [Option.map_some]
      rw [posG_id hs.nodup (hlt k (List.mem_of_getElem? hk))]
theorem order_ids (G : Gr) : idsG (orderF G) = namesG G (ordG G) := by unfold idsG orderF namesG; rw [List.map_map]; rfl

def OLRel (w1 : World) (NM : List Bs) (f : Nat) (t10 t11 _t12 _t13 : Value) (wr : World) : Prop :=
  ∃ (i : Nat) (ss : List ByteArray), t11 = .int .i64 (i : Nat) ∧ i ≤ NM.length ∧ f = NM.length - i ∧ wr.ownsRow w1.heap.size 9 1 t10 ss.length (ss.map Value.string) ∧ dts ss = NM.take i ∧ Below w1.heap.size w1 wr
def OLIn (w1 : World) (n : Nat) (f : Nat) (t13 : Value) (wr : World) : Prop :=
  ∃ j : Nat, t13 = .int .i64 (j : Nat) ∧ j ≤ n ∧ f = n - j ∧ wr = w1

set_option maxRecDepth 100000 in
set_option maxHeartbeats 6400000 in
theorem order_law (nv : Value) (ns : List Nd) (t : Nat) (ht : t ≤ 255) (hnb : ∀ x ∈ ns, x.needs.length ≤ 8796093022208) (m : Int) (w : World) (hN : NdAt w nv ns) (hm : w.cell? ⟨0, 0, none⟩ = some (.int .i64 m)) (hml : 0 < w.heap.size) :
    Calls Tryz.prog 7 #[nv, .int .u8 (t : Nat)] w (LawPost w) := by
  have MX : ∀ W, Below w.heap.size w W → W.cell? ⟨0, 0, none⟩ = some (.int .i64 m) ∧ 0 < W.heap.size := fun W hW => ⟨(hW.cell (p := ⟨0, 0, none⟩) hml).trans hm, Nat.lt_of_lt_of_le hml hW.size⟩
  have SM := Lib.hid (small_any nv ns 400 (by decide) w hN)
  have AW := fun W (hW : Below w.heap.size w W) => Lib.hid (awake_any m W (MX W hW).1 (MX W hW).2)
  have GO : ∀ v os W, os.length ≤ 400 → Below w.heap.size w W → NdAt W v os → Hid (Calls Tryz.prog 13 #[v] W (OrderPost (grO os) W)) := fun v os W h hW hn => gorder_any v os m (by omega) W hn (MX W hW).1 (MX W hW).2
  have TU : ∀ a W, a < ns.length → smallF ns 400 = true → Below w.heap.size w W → Hid (Calls Tryz.prog 29 #[nv, .int .i64 (a : Nat)] W (TurPost ns a W)) := fun a W ha hs hW => turned_any nv ns a ha (by have := small_len hs; omega) (fun x hx => by have := small_needs (by decide) hnb hs x hx; omega) W (hN.below hW)
  have CY : ns.length ≤ 400 → ∀ W, Below w.heap.size w W → Hid (Calls Tryz.prog 19 #[nv] W (StrPost (cycleF (grO ns)) W)) := fun h W hW => cycle_any nv ns m (by omega) W (hN.below hW) (MX W hW).1 (MX W hW).2
  have HN := Lib.hid hN
  have HNB := Lib.hid hnb
  have HL := Lib.hid (grO_len ns)
  obtain ⟨ao, cap, rfl⟩ := hN.sl.form
  clear hN hm hml MX hnb
  go_enter Tryz.func7, Tryz.ntmps7
  have B0 := Lib.hid (Below.refl w.heap.size w)
  by_cases hs : smallF ns 400 = true
  · have hl := small_len hs
    have HSN := Lib.hid (small_needs (by decide) HNB.out hs)
    have HSM := Lib.hid hs
    rw [hs] at SM
    clear hs
    by_cases h0 : ns.length = 0
    · have h0i : ((ns.length : Int) == 0) = true := by rw [h0]; rfl
      clear GO TU CY h0
      as_aux_lemma =>
      go_wp2_with fail
      refine SM.out.mono ?_
      rintro e w1 ⟨rfl, rfl⟩
      go_wp2_with fail
      refine (AW _ B0.out).out.mono ?_
      rintro e w2 ⟨rfl, hb⟩
      have HB := Lib.hid hb
      clear hb
      go_wp2_with fail
      go_ret
      exact ⟨rfl, HB.out⟩
    · have h0i : ((ns.length : Int) == 0) = false := by rw [beq_eq_false_iff_ne]; omega
      have ha : t % ns.length < ns.length := Nat.mod_lt _ (by omega)
      have hti := tmod_natT t ns.length
      have hnz : (ns.length : Int) ≠ 0 := by omega
      have CYC := CY hl
      have TU1 := fun W hW => TU (t % ns.length) W ha HSM.out hW
      generalize t % ns.length = a at *
      have GO1 := GO _ ns w hl B0.out HN.out
      go_wp2_with fail
      refine SM.out.mono ?_
      rintro e w1 ⟨rfl, rfl⟩
      go_wp2_with fail
      refine GO1.out.mono ?_
      rintro e w2 ⟨lv, ls, rfl, hls, hl0, hl1, hb⟩
      have B2 := Lib.hid hb
      have HLS := Lib.hid hls
      have HL0 := Lib.hid hl0
      have HL1 := Lib.hid hl1
      clear hb hls hl0 hl1 GO1 SM CY TU
      go_wp2_with fail
      refine (TU1 w2 B2.out).out.mono ?_
      rintro e w3 ⟨tv, os, rfl, hos, hog, hb⟩
      have B3 := Lib.hid (B2.out.trans (hb.mono B2.out.size))
      have HLS3 := Lib.hid (HLS.out.below hb)
      have HTN := turn_needs hog HSN.out
      have GO2 := GO tv os w3 (by rw [HTN.1]; exact hl) B3.out hos
      rw [hog] at GO2
      have HOG := Lib.hid hog
      have HVT := Lib.hid (valid_turn (grO ns) a)
      clear hb hos hog HTN HLS TU1 GO
      go_wp2_with fail
      refine GO2.out.mono ?_
      rintro e w4 ⟨mv, ms, rfl, hms, hm0, hm1, hb⟩
      have B4 := Lib.hid (B3.out.trans (hb.mono B3.out.size))
      have HLS4 := Lib.hid (HLS3.out.below hb)
      have HMS := Lib.hid hms
      have HM0 := Lib.hid hm0
      have HM1 := Lib.hid hm1
      clear hb hms hm0 hm1 GO2 HLS3
      go_wp2_with fail
      refine (CYC w4 B4.out).out.mono ?_
      rintro e w5 ⟨cv, cs, rfl, hcs, hcd, hb⟩
      have B5 := Lib.hid (B4.out.trans (hb.mono B4.out.size))
      have HLS5 := Lib.hid (HLS4.out.below hb)
      have HMS5 := Lib.hid (HMS.out.below hb)
      have HCS := Lib.hid hcs
      have HCD : Hid (dts cs = cycleF (grO ns)) := hcd
      clear hb hcs hcd CYC HLS4 HMS hti hnz h0i
      obtain ⟨lao, lcap, rfl⟩ := HLS5.out.sl.form
      obtain ⟨mao, mcap, rfl⟩ := HMS5.out.sl.form
      obtain ⟨cao, ccap, rfl⟩ := HCS.out.form
      by_cases hv14 : validF (grO ns) = 14
      · have hf14 := HVT.out.2.2 hv14
        have hcyc := cycle_is hv14
        rw [← HCD.out] at hcyc
        have CC := Lib.hid (cyclic_any _ _ ns cs (by omega) (fun x hx => Nat.le_trans (HSN.out x hx) (by decide)) (by have := cyc_len hcyc; rw [HL.out, dts_len] at this; omega) hcyc w5 (HN.out.below B5.out) HCS.out)
        rw [hv14, hf14]
        clear hv14 hf14 hcyc
        as_aux_lemma =>
        go_wp2_with fail
        refine CC.out.mono ?_
        rintro e w6 ⟨rfl, hq⟩
        have B6 := Lib.hid (B5.out.trans ((below_ex hq).mono B5.out.size))
        clear hq CC
        go_wp2_with fail
        refine (AW _ B6.out).out.mono ?_
        rintro e w7 ⟨rfl, hb⟩
        have B7 := Lib.hid (B6.out.trans (hb.mono B6.out.size))
        clear hb
        go_wp2_with fail
        go_ret
        exact ⟨rfl, B7.out⟩
      · have hc0 : cs = [] := by
          have := HCD.out
          rw [cycle_none hv14] at this
          exact List.length_eq_zero_iff.1 (by rw [← dts_len, this]; rfl)
        subst hc0
        have hf14 : validF (turnG (grO ns) a) ≠ 14 := fun e => hv14 (HVT.out.2.1 e)
        by_cases hv0 : validF (grO ns) = 0
        · have hf0 := HVT.out.1.2 hv0
          have hff : formedF (grO ns) = 0 := by
            unfold validF at hv0
            by_cases h2 : formedF (grO ns) = 0
            · exact h2
            · rw [if_pos (by simpa using h2)] at hv0; exact hv0
          have hS := formed_sound hff
          have HS := Lib.hid hS
          have hfu : (ordG (grO ns)).length = (grO ns).length := by
            unfold validF at hv0
            rw [if_neg (show ¬ formedF (grO ns) ≠ 0 by simp [hff])] at hv0
            have := (ordG_listed (grO ns)).len
            by_cases h : (ordG (grO ns)).length < (grO ns).length
            · rw [if_pos h] at hv0; cases hv0
            · omega
          have hlg := HL0.out hv0
          have hmg := HM0.out hf0
          have HLI : Hid (idsG (grO ls) = namesG (grO ns) (ordG (grO ns))) := by unfold Hid; rw [hlg, order_ids]
          have HMI : Hid (idsG (grO ms) = namesG (grO ns) (ordG (grO ns))) := by unfold Hid; rw [hmg, order_ids, ← turn_names hS a]
          have HLG := Lib.hid hlg
          have hnl : (namesG (grO ns) (ordG (grO ns))).length = ns.length := by unfold namesG; rw [List.length_map, hfu, HL.out]
          have hll : ls.length = ns.length := by rw [← ids_length, HLI.out, hnl]
          have hml : ms.length = ns.length := by rw [← ids_length, HMI.out, hnl]
          have HNL := Lib.hid hnl
          have HLL := Lib.hid hll
          have HML := Lib.hid hml
          have e1 : (((ls.length : Nat) : Int) != ((ns.length : Nat) : Int)) = false := by rw [hll]; simp
          have e2 : (((ms.length : Nat) : Int) != ((ls.length : Nat) : Int)) = false := by rw [hll, hml]; simp
          have FACT := Lib.hid (fun i b h => ord_facts hS (i := i) (b := b) h)
          have FA := fun s W (hW : Below w1.heap.size w1 W) => Lib.hid (find_any _ ns s (by omega) W (HN.out.below hW))
          obtain ⟨i9, hi9⟩ := Tryz.info9'
          have HI9 := Lib.hid hi9
          have hs5 := B5.out.size
          rw [hv0, hf0]
          clear hv14 hf14 hv0 hf0 hff hS hfu hlg hmg hnl hll hml HL0 HL1 HM0 HM1 HVT hi9 HCS HCD
          generalize namesG (grO ns) (ordG (grO ns)) = NM at *
          go_wp2_with fail
          clear e1 e2
          go_loopg [10, 11, 12, 13] ns.length (OLRel w5 NM)
          case atStart => exact ⟨0, [], rfl, Nat.zero_le _, by rw [HNL.out]; rfl, World.ownsRow_nil _ _ _ _, by rw [List.take_zero]; rfl, Below.refl _ _⟩
          case round =>
            obtain ⟨i, ss, rfl, hi, hff, hown, hdt, hbr⟩ := hrel
            rw [HNL.out] at hi hff
            subst hff
            have hsl : ss.length ≤ 400 := by
              have h1 := congrArg List.length hdt
              rw [dts_len, List.length_take] at h1
              omega
            have HOWN := Lib.hid hown
            have HDT := Lib.hid hdt
            have HBR := Lib.hid hbr
            have HBT := Lib.hid (B5.out.trans (hbr.mono hs5))
            have hws := hbr.size
            obtain ⟨a10, c10, rfl⟩ := ownsRow_form hown
            clear hown hdt hbr
            by_cases hlt : i < ns.length
            · have hli : i < ls.length := by rw [HLL.out]; exact hlt
              have hmi : i < ms.length := by rw [HML.out]; exact hlt
              have hlii : ((i : Nat) : Int) < (ls.length : Int) := by omega
              have hmii : ((i : Nat) : Int) < (ms.length : Int) := by omega
              have hi0 : (0 : Int) ≤ ((i : Nat) : Int) := by omega
              have hxi := grO_ids ls hli
              have hyi := grO_ids ms hmi
              rw [HLI.out] at hxi
              rw [HMI.out, hxi] at hyi
              injection hyi with hyi
              have heq := (data_inj hyi).symm
              obtain ⟨f1, f2, f3, f4⟩ := FACT.out i _ hxi
              have hat := grO_at ls hli
              rw [HLG.out, f4] at hat
              injection hat with hat
              injection hat with _ hat
              have hk : posG (grO ns) (ls.getD i default).id.data.toList < ns.length := by have := posG_lt f1; rwa [HL.out] at this
              have hnk := grO_need ns hk
              rw [hnk] at hat
              have F1 := FA (ls.getD i default).id wr HBT.out
              rw [find_pos f1] at F1
              rw [hnk] at f3
              have hat2 : dts (ls.getD i default).needs = dts (ns.getD (posG (grO ns) (ls.getD i default).id.data.toList) default).needs := hat.symm
              have F3 : Hid (∀ c ∈ dts (ls.getD i default).needs, c ∈ dts ss) := fun c hc => by rw [HDT.out]; rw [hat2] at hc; exact f3 c hc
              have HTK : Hid (NM.take (i + 1) = NM.take i ++ [(ls.getD i default).id.data.toList]) := by unfold Hid; rw [List.take_add_one, hxi]; rfl
              obtain ⟨lb, loff, rfl, hlb, hlc0, hlc1, hlsx⟩ := (HLS5.out.below HBR.out).at2 hli
              obtain ⟨mb, moff, rfl, hmb, hmc0, hmc1, _⟩ := (HMS5.out.below HBR.out).at2 hmi
              obtain ⟨nb, noff, rfl, hnb, hnc0, hnc1, hnsx⟩ := (HN.out.below HBT.out).at2 hk
              rw [heq] at hmc0
              have hkl := HSN.out (ns.getD (posG (grO ns) (ls.getD i default).id.data.toList) default) (by rw [List.getD, List.getElem?_eq_getElem hk]; exact List.getElem_mem hk)
              have hnll : (ls.getD i default).needs.length ≤ 400 := by
                have := congrArg List.length hat2
                rw [dts_len, dts_len] at this
                omega
              have SQ : ∀ nq, Hid (Calls Tryz.prog 18 #[(ls.getD i default).nv, (ns.getD (posG (grO ns) (ls.getD i default).id.data.toList) default).nv] (wr.drewN nq) fun e w'' => e = .returned (.bool true) ∧ ∃ m, w'' = wr.drewN m) := fun nq => (rsameq_any _ _ _ _ (by omega) (wr.drewN nq) (hlsx.below (below_drewN wr nq)) (hnsx.below (below_drewN wr nq))).mono fun e w'' h => by
                obtain ⟨h1, q, h2⟩ := h
                exact ⟨by rw [h1, decide_eq_true hat2], nq + q, by rw [h2, drewN_drewN]⟩
              have HQ : ∀ nq, Hid (Calls Tryz.prog 32 #[.slice a10 ss.length c10, .string (ls.getD i default).id] (wr.drewN nq) fun e w'' => e = .returned (.bool false) ∧ ∃ m, w'' = wr.drewN m) := fun nq => by
                have h1 := has_any _ ss (ls.getD i default).id (by omega) (wr.drewN nq) ((StrsAt.of_row HOWN.out).below (below_drewN wr nq))
                rw [HDT.out, decide_eq_false f2] at h1
                exact Calls.quiet_of_same h1
              have HLW : Hid (∀ W, Below wr.heap.size wr W → StrsAt W (ls.getD i default).nv (ls.getD i default).needs) := fun W hW => hlsx.below hW
              have HLC : Hid (∀ W, Below wr.heap.size wr W → W.cell? ⟨lb, loff + i * 2, none⟩ = some (.string (ls.getD i default).id) ∧ W.cell? ⟨lb, loff + i * 2 + 1, none⟩ = some (ls.getD i default).nv) := fun W hW => ⟨(hW.cell (p := ⟨lb, loff + i * 2, none⟩) hlb).trans hlc0, (hW.cell (p := ⟨lb, loff + i * 2 + 1, none⟩) hlb).trans hlc1⟩
              obtain ⟨xao, xcap, hxe⟩ := hlsx.form
              obtain ⟨yao, ycap, hye⟩ := hnsx.form
              rw [hxe] at hlc1 SQ HLW HLC
              rw [hye] at hnc1 SQ
              have hxx : (!(ls.getD i default).id.toList == (ls.getD i default).id.toList) = false := by simp
              clear hxe hye hlsx hnsx hxi hyi heq f1 f2 f3 f4 hat hat2 hnk
              generalize posG (grO ns) (ls.getD i default).id.data.toList = k at *
              generalize (ls.getD i default).id = x at *
              generalize (ls.getD i default).needs = nl at *
              generalize (ns.getD k default).needs.length = ynl at *
              have hki : ((k : Nat) : Int) < (ns.length : Int) := by omega
              have hk0 : decide (((k : Nat) : Int) < 0) = false := decide_eq_false (by omega)
              have hk0' : (0 : Int) ≤ ((k : Nat) : Int) := by omega
              go_wp2_with fail
              refine F1.out.mono ?_
              rintro e w6 ⟨rfl, rfl⟩
              go_upto_region 17 with fail
              go_quiet ((first | (go_at_call 18; with_reducible exact (SQ _).out) | (go_at_call 32; with_reducible exact (HQ _).out)))
              rename_i nq
              have HBQ : Hid (Below w6.heap.size w6 (w6.drewN nq)) := below_drewN w6 nq
              generalize w6.drewN nq = w7 at *
              have HBR7 := Lib.hid (HBR.out.trans (HBQ.out.mono hws))
              have hq0 := HLC.out w7 HBQ.out
              have HL7 := Lib.hid (HLW.out w7 HBQ.out)
              have HS7 : Hid (StrsAt w7 (.slice a10 ss.length c10) ss) := (StrsAt.of_row HOWN.out).below HBQ.out
              have HOW7 := Lib.hid (ownsRow_below HOWN.out HBQ.out)
              have HXC : Hid (∀ W, Below w7.heap.size w7 W → W.cell? ⟨lb, loff + i * 2, none⟩ = some (.string x) ∧ W.cell? ⟨lb, loff + i * 2 + 1, none⟩ = some (.slice xao nl.length xcap)) := fun W hW => HLC.out W (HBQ.out.trans (hW.mono HBQ.out.size))
              obtain ⟨hq1, hq2⟩ := hq0
              have hws7 := HBR7.out.size
              clear SQ HQ F1 HLC HLW hlc0 hlc1 hmc0 hmc1 hnc0 hnc1 hxx
              go_wp2_with fail
              go_loopg [13] nl.length (OLIn w7 nl.length)
              case atStart => exact ⟨0, rfl, Nat.zero_le _, rfl, rfl⟩
              case round =>
                obtain ⟨j, rfl, hj, rfl, hw⟩ := hrel
                subst hw
                by_cases hjl : j < nl.length
                · have hjj : ((j : Nat) : Int) < (nl.length : Int) := by omega
                  have hj0 : (0 : Int) ≤ ((j : Nat) : Int) := by omega
                  obtain ⟨yb, yoff, rfl, hyb, hyc⟩ := HL7.out.at_ hjl
                  have hyi := dts_at nl hjl
                  have hym := F3.out _ (List.mem_of_getElem? hyi)
                  have HA := has_any _ ss (nl.getD j ByteArray.empty) (by omega) _ HS7.out
                  rw [decide_eq_true hym] at HA
                  have HA1 := Lib.hid HA
                  clear HA hyi hym
                  generalize nl.getD j ByteArray.empty = y at *
                  as_aux_lemma =>
                  go_wp2_with fail
                  refine HA1.out.mono ?_
                  rintro e w8 ⟨rfl, rfl⟩
                  go_wp2_with fail
                  go_roundg (nl.length - (j + 1))
                  case measure => omega
                  case rel => exact ⟨j + 1, by go_num, by omega, rfl, rfl⟩
                · have hnj : ¬ ((j : Nat) : Int) < (nl.length : Int) := by omega
                  have hssl : ss.length + 1 ≤ 401 := by omega
                  as_aux_lemma =>
                  go_wp2_with (at_builtin; refine wpList_append2 rfl _ _ 35 rfl w5.heap.size 9 i9 (.string ByteArray.empty) 1 16 Tryz.underlying35 HI9.out rfl (by decide) _ _ _ rfl (World.ownsRow.alloc HOW7.out _) ⟨_, 0, none⟩ 1 1 [.string x] rfl rfl (cells_newAt rfl _ 9 (0, 0)) rfl (by unfold maxLen; omega) (by omega) (by simp; omega) ?_)
                  intro v9 w9 hown hgrow _
                  have HB9 : Hid (Below w5.heap.size w5 w9) := (HBR7.out.alloc hws7 _).grown hgrow (by simp; omega) fun k hk => (World.ownsRow.lt HOW7.out k hk).1
                  have HO9 : Hid (w9.ownsRow w5.heap.size 9 1 v9 (ss ++ [x]).length ((ss ++ [x]).map Value.string)) := by unfold Hid; rw [List.map_append, List.length_append]; exact hown
                  have HD9 : Hid (dts (ss ++ [x]) = NM.take (i + 1)) := by
                    unfold Hid
                    rw [HTK.out, ← HDT.out]
                    simp [dts]
                  clear hown hgrow hq1 hq2
                  go_wp2_with fail
                  go_roundg (ns.length - (i + 1))
                  case measure => omega
                  case rel => exact ⟨i + 1, ss ++ [x], by go_num, by rw [HNL.out]; omega, by rw [HNL.out], HO9.out, HD9.out, HB9.out⟩
            · have hni : ¬ ((i : Nat) : Int) < (ls.length : Int) := by have := HLL.out; omega
              as_aux_lemma =>
              go_wp2_with fail
              refine (AW _ HBT.out).out.mono ?_
              rintro e w7 ⟨rfl, hb⟩
              have B7 := Lib.hid (HBT.out.trans (hb.mono HBT.out.size))
              clear hb
              go_wp2_with fail
              go_ret
              exact ⟨rfl, B7.out⟩
        · have hf0 : validF (turnG (grO ns) a) ≠ 0 := fun e => hv0 (HVT.out.1.1 e)
          have hl0 : ls = [] := HL1.out hv0
          subst hl0
          generalize validF (grO ns) = v at *
          generalize validF (turnG (grO ns) a) = f at *
          have e1 : (((v : Nat) : Int) == 14) = false := by rw [beq_eq_false_iff_ne]; omega
          have e2 : (((v : Nat) : Int) != 0) = true := by rw [bne_iff_ne]; omega
          have e3 : (((f : Nat) : Int) != 0) = true := by rw [bne_iff_ne]; omega
          have e4 : (((f : Nat) : Int) != 14) = true := by rw [bne_iff_ne]; omega
          clear hv0 hv14 hf0 hf14
          as_aux_lemma =>
          go_wp2_with fail
          refine (AW _ B5.out).out.mono ?_
          rintro e w7 ⟨rfl, hb⟩
          have B7 := Lib.hid (B5.out.trans (hb.mono B5.out.size))
          clear hb
          go_wp2_with fail
          go_ret
          exact ⟨rfl, B7.out⟩
  · have hs' : smallF ns 400 = false := by simpa using hs
    rw [hs'] at SM
    clear hs hs' GO TU CY
    as_aux_lemma =>
    go_wp2_with fail
    refine SM.out.mono ?_
    rintro e w1 ⟨rfl, rfl⟩
    go_wp2_with fail
    refine (AW _ B0.out).out.mono ?_
    rintro e w2 ⟨rfl, hb⟩
    have HB := Lib.hid hb
    clear hb
    go_wp2_with fail
    go_ret
    exact ⟨rfl, HB.out⟩
end Go.Proofs.YtfegmmafcopbpaaGreatDoor
