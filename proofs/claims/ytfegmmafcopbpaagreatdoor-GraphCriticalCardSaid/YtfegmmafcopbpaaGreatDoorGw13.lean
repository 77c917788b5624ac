/- The walk over Cycle of package graph. -/
import Derived.Test.YtfegmmafcopbpaaGreatDoorGw12
import Derived.Test.YtfegmmafcopbpaaGreatDoorGr
import Derived.WalkMore
namespace Go.Proofs.YtfegmmafcopbpaaGreatDoor
open Go.RowKit

def doneF (l : List Nat) : Nat → Option Value := fun k => if k ∈ l then some (.bool true) else none
theorem doneF_new (l : List Nat) (k : Nat) : doneF (l ++ [k]) k = some (.bool true) ∧ ∀ j, j ≠ k → doneF (l ++ [k]) j = doneF l j := by
  constructor
  · unfold doneF; rw [if_pos (by simp)]
  · intro j hj
    unfold doneF
    simp only [List.mem_append, List.mem_singleton, hj, or_false]
theorem intV_inj {a b : Nat} (h : intV b = intV a) : b = a := by injection h with _ h; omega

def DoneRel (w1 : World) (bd : Nat) (L : List Nat) (f : Nat) (t30 : Value) (wr : World) : Prop :=
  ∃ k : Nat, t30 = .int .i64 (k : Nat) ∧ k ≤ L.length ∧ f = L.length - k ∧ Kp w1.heap.size (· = bd) w1 wr ∧ MapF (.int .i64) intV wr bd (doneF (L.take k))
def RestRel (w1 : World) (G : Gr) (n : Nat) (f : Nat) (t39 t8 : Value) (wr : World) : Prop :=
  ∃ k : Nat, t39 = .int .i64 (k : Nat) ∧ k ≤ n ∧ f = n - k ∧ Below w1.heap.size w1 wr ∧ IRow wr w1.heap.size t8 (restTo G k)
def SeaRel (w1 : World) (G : Gr) (R : List Nat) (f : Nat) (t56 t10 : Value) (wr : World) : Prop :=
  ∃ k : Nat, t56 = .int .i64 (k : Nat) ∧ t10 = .slice none 0 0 ∧ k ≤ R.length ∧ f = R.length - k ∧ (∀ j ∈ R.take k, distF (be G) G.length j j = 0) ∧ Below w1.heap.size w1 wr
def PathRel (w1 : World) (G : Gr) (n s : Nat) (D : Nat → Nat) (f : Nat) (t14 t15 t10 : Value) (wr : World) : Prop :=
  ∃ (i m : Nat) (acc : List ByteArray), t14 = .int .i64 (i : Nat) ∧ t15 = .int .i64 ((m + 1 : Nat) : Int) ∧ f = m + 1 ∧ i < n ∧ D i = m + 1 ∧ acc.length + (m + 1) = D s ∧ acc.map (·.data.toList) ++ pathC G D (m + 1) i = pathC G D (D s) s ∧
    wr.ownsRow w1.heap.size 9 1 t10 acc.length (acc.map Value.string) ∧ Below w1.heap.size w1 wr
def NexRel (w1 : World) (G : Gr) (D : Nat → Nat) (i m : Nat) (f : Nat) (t96 t16 : Value) (wr : World) : Prop :=
  ∃ j : Nat, t96 = .int .i64 (j : Nat) ∧ j ≤ (ab G i).length ∧ f = (ab G i).length - j ∧ Below w1.heap.size w1 wr ∧ IRow wr w1.heap.size t16 (((ab G i).take j).filter fun k => decide (D k = m))

set_option maxRecDepth 100000 in
set_option maxHeartbeats 12800000 in
theorem cycle_any (nv : Value) (ns : List Nd) (m : Int) (hlen : 40 * ns.length ≤ 281474976710656) (w : World) (hN : NdAt w nv ns) (hm : w.cell? ⟨0, 0, none⟩ = some (.int .i64 m)) (hml : 0 < w.heap.size) :
    Calls Tryz.prog 19 #[nv] w (StrPost (cycleF (grO ns)) w) := by
  have CK : ∀ W, Below w.heap.size w W → Hid (Calls Tryz.prog 34 #[nv] W (CheckPost ns nv W)) := fun W hW => check_any nv ns m hlen W (hN.below hW) ((hW.cell (p := ⟨0, 0, none⟩) hml).trans hm) (Nat.lt_of_lt_of_le hml hW.size)
  have HN := Lib.hid hN
  obtain ⟨nao, ncap, rfl⟩ := hN.sl.form
  have HNL := Lib.hid (grO_len ns)
  obtain ⟨i3, hi3⟩ := Tryz.info3'
  have HI := Lib.hid hi3
  obtain ⟨i9, hi9⟩ := Tryz.info9'
  have HI9 := Lib.hid hi9
  have hmm : ∀ W : World, (Instr.makeMap 61 none).run Tryz.prog W = .ok (.map (some W.heap.size)) (W.alloc (.map #[] 0)) := fun W => run_makeMap _ W
  clear hN hm hi3 hi9
  go_enter Tryz.func19, Tryz.ntmps19
  go_wp2_with fail
  go_step3
  go_upto_region 1 with fail
  have HBA := Lib.hid ((Below.refl w.heap.size w).alloc (Nat.le_refl _) (.cells #[.slice nao ns.length ncap] 22 (0, 0)))
  have HC1 : Hid ((w.alloc (.cells #[.slice nao ns.length ncap] 22 (0, 0))).cell? ⟨w.heap.size, 0, none⟩ = some (.slice nao ns.length ncap)) := by unfold Hid; rw [cell_of_blk (hp_new rfl)]; rfl
  have hs1 : (w.alloc (.cells #[.slice nao ns.length ncap] 22 (0, 0))).heap.size = w.heap.size + 1 := by simp
  have HS1 := Lib.hid hs1
  clear hs1
  generalize w.alloc (.cells #[.slice nao ns.length ncap] 22 (0, 0)) = w1 at *
  have HN1 := Lib.hid (HN.out.below HBA.out)
  have CK1 := CK w1 HBA.out
  generalize hcb : w.heap.size = cb at *
  have HCB := Lib.hid hcb
  have hcb1 : cb < w1.heap.size := by have := HS1.out; omega
  clear CK hcb
  have hc1 := HC1.out
  go_wp2_with fail
  refine CK1.out.mono ?_
  rintro e w2 ⟨p, rfl, hb2, h0, h1⟩
  have HB2 := Lib.hid hb2
  clear hb2 CK1 hc1
  by_cases hf : formedF (grO ns) = 0
  · obtain ⟨g, rfl, hnet⟩ := h0 hf
    have hS := formed_sound hf
    have HS := Lib.hid hS
    have HNET := Lib.hid hnet
    have OR := Lib.hid (order_any g _ ns w2 hnet hS)
    have HSZ := Lib.hid (sizes_of hS)
    have hln := hS.len
    rw [grO_len] at hln
    have hol := (ordG_listed (grO ns)).len
    rw [grO_len] at hol
    have HCF : Hid (cycleF (grO ns) = cycF (grO ns)) := by unfold Hid cycleF; rw [if_neg (by simp [hf])]
    rw [hf]
    clear h0 h1 hnet hS hf
    go_upto_region 5 with fail
    have HB3 := Lib.hid (HB2.out.alloc HB2.out.size (.map #[] 0))
    have HM3 : Hid (MapF (.int .i64) intV (w2.alloc (.map #[] 0)) w2.heap.size (doneF [])) := (mapF_new rfl 0).congr fun s => by unfold doneF; simp
    have hs3 : (w2.alloc (.map #[] 0)).heap.size = w2.heap.size + 1 := by simp
    have HS3 := Lib.hid hs3
    have hs2 := HB2.out.size
    have OR3 := Lib.hid (order_any g _ ns (w2.alloc (.map #[] 0)) (HNET.out.below ((Below.refl w2.heap.size w2).alloc (Nat.le_refl _) _)) HS.out)
    have HNET3 := Lib.hid (HNET.out.below ((Below.refl w2.heap.size w2).alloc (Nat.le_refl _) (.map #[] 0)))
    have HNET2 := HNET
    have HB23 := Lib.hid ((Below.refl w2.heap.size w2).alloc (Nat.le_refl _) (.map #[] 0))
    clear hmm hs3 OR HNET
    generalize w2.alloc (.map #[] 0) = w3 at *
    have HNETW : Hid (∀ W, Below w2.heap.size w2 W → NetAt W g (.slice nao ns.length ncap) ns) := fun W hW => HNET2.out.below hW
    generalize hbd : w2.heap.size = bd at *
    have HBD := Lib.hid hbd
    clear hbd
    have hbd3 : bd < w3.heap.size := by have := HS3.out; omega
    go_wp2_with fail
    refine OR3.out.mono ?_
    rintro e w4 ⟨lv, rfl, ho, hb4⟩
    obtain ⟨lao, lcap, rfl⟩ := ho.form
    have HB4 := Lib.hid (HB3.out.trans (hb4.mono HB3.out.size))
    have HO4 := Lib.hid ho
    have HM4 := Lib.hid (HM3.out.below hb4)
    have HB24 := Lib.hid (HB23.out.trans (hb4.mono (Nat.le_of_lt hbd3)))
    have hbd4 : bd < w4.heap.size := Nat.lt_of_lt_of_le hbd3 hb4.size
    have hob : ∀ k, (Value.slice lao (ordG (grO ns)).length lcap).ownBlock = some k → k ≠ bd ∧ k < w4.heap.size := fun k hk => by
      have := ho.lt k hk
      exact ⟨by omega, this.2⟩
    have HOB := Lib.hid hob
    clear ho hb4 hob OR3 HNET3 HM3 HB3 HB2 HNET2 HB23
    go_upto_block 0 with fail
    go_cut [30] (fun s30 wx => Kp w4.heap.size (· = bd) w4 wx ∧ MapF (.int .i64) intV wx bd (doneF (ordG (grO ns))))
    case first =>
      generalize ordG (grO ns) = L at *
      go_wp2_with fail
      go_loopg [30] L.length (DoneRel w4 bd L)
      case atStart => exact ⟨0, rfl, Nat.zero_le _, rfl, Kp.refl _ _ _, HM4.out⟩
      case round =>
        obtain ⟨k, rfl, hk, rfl, hkp, hmp⟩ := hrel
        have HKP := Lib.hid hkp
        have HMP := Lib.hid hmp
        clear hkp hmp
        by_cases hlt : k < L.length
        · have hki : (k : Int) < (L.length : Int) := by omega
          obtain ⟨lb, loff, rfl, hlb, hlc⟩ := (HO4.out.kp HKP.out fun k hk => ⟨(HOB.out k hk).2, (HOB.out k hk).1⟩).at.at1 hlt
          have HTK : Hid (L.take (k + 1) = L.take k ++ [L.getD k 0]) := by unfold Hid; rw [List.take_add_one, List.getD, List.getElem?_eq_getElem hlt]; rfl
          generalize L.getD k 0 = x at *
          have HDN := Lib.hid (doneF_new (L.take k) x)
          go_wp2_with (refine wpList_updateF rfl _ _ _ rfl HMP.out rfl Tryz.underlying61 Tryz.underlying3 x rfl rfl (fun b hb => intV_inj hb) (.bool true) rfl (doneF (L.take k ++ [x])) HDN.out.1 HDN.out.2 ?_; intro o' w5 hW5 hM5; have HW5 := Lib.hid hW5; have HM5 := Lib.hid hM5; clear hW5 hM5)
          go_roundg (L.length - (k + 1))
          case measure => omega
          case rel => exact ⟨k + 1, by go_num, by omega, rfl, HKP.out.wrote HW5.out (.inr rfl), by rw [HTK.out]; exact HM5.out⟩
        · have hke : k = L.length := by omega
          subst hke
          go_wp2_with fail
          go_meet
          have := HMP.out
          rw [List.take_length] at this
          exact ⟨HKP.out, this⟩
    case rest =>
      obtain ⟨hk5, hm5⟩ := hcut
      generalize wc = w5 at *
      have HM5 := Lib.hid hm5
      have hb5 : Below w1.heap.size w1 w5 := HB4.out.trans (hk5.below HB4.out.size fun j hj e => by omega)
      have HB5 := Lib.hid hb5
      have HB25 := Lib.hid (HB24.out.trans (hk5.below (Nat.le_of_lt hbd4) fun j hj e => by omega))
      have hs5 : w4.heap.size ≤ w5.heap.size := hk5.size
      clear hk5 hm5 hb5 HM4 HB24 HO4 HOB HB4
      have hbd5 : bd < w5.heap.size := by omega
      have hs15 := HB5.out.size
      have hc5 : w5.cell? ⟨cb, 0, none⟩ = some (.slice nao ns.length ncap) := (HB5.out.cell (p := ⟨cb, 0, none⟩) hcb1).trans HC1.out
      go_upto_block 2 with fail
      clear hc5
      go_cut [8] (fun s8 wx => Below w5.heap.size w5 wx ∧ IRow wx w5.heap.size s8 (restL (grO ns)))
      case first =>
        go_wp2_with fail
        go_loopg [39, 8] ns.length (RestRel w5 (grO ns) ns.length)
        case atStart => exact ⟨0, rfl, Nat.zero_le _, rfl, Below.refl _ _, IRow.nil _ _⟩
        case round =>
          obtain ⟨k, rfl, hk, rfl, hb, hr⟩ := hrel
          obtain ⟨ao, cap, rfl⟩ := hr.form
          have HB := Lib.hid hb
          have HR := Lib.hid hr
          have hrl := restTo_len (grO ns) k
          have HMP := Lib.hid (HM5.out.below hb)
          clear hb hr
          by_cases hlt : k < ns.length
          · have hki : (k : Int) < (ns.length : Int) := by omega
            have HSC := Lib.hid (restTo_succ (grO ns) k)
            have LK := MapF.lookup (P := Tryz.prog) HMP.out Tryz.underlying61 Tryz.underlying3 (z := .bool false) (by kernel_rfl) (a := k) rfl false
            by_cases hin : k ∈ ordG (grO ns)
            · have e : doneF (ordG (grO ns)) k = some (.bool true) := by unfold doneF; rw [if_pos hin]
              rw [e] at LK
              simp only [Option.getD_some, if_false, Bool.false_eq_true] at LK
              have HS2 : Hid (restTo (grO ns) (k + 1) = restTo (grO ns) k) := by unfold Hid; rw [HSC.out, if_pos hin]
              clear e hin HSC
              as_aux_lemma =>
              go_wp2_with fail
              go_roundg (ns.length - (k + 1))
              case measure => omega
              case rel => exact ⟨k + 1, by go_num, by omega, rfl, HB.out, by rw [HS2.out]; exact HR.out⟩
            · have e : doneF (ordG (grO ns)) k = none := by unfold doneF; rw [if_neg hin]
              rw [e] at LK
              simp only [Option.getD_none, if_false, Bool.false_eq_true] at LK
              have HS2 : Hid (restTo (grO ns) (k + 1) = restTo (grO ns) k ++ [k]) := by unfold Hid; rw [HSC.out, if_neg hin]
              clear e hin HSC
              as_aux_lemma =>
              go_wp2_with (at_builtin; refine wpList_append2 rfl _ _ 40 rfl w5.heap.size 3 i3 (.int .i64 0) 1 8 Tryz.underlying40 HI.out rfl (by decide) _ _ _ rfl (World.ownsRow.alloc HR.out _) ⟨wr.heap.size, 0, none⟩ 1 1 [intV k] rfl rfl (cells_newAt rfl _ 3 (0, 0)) rfl (by unfold maxLen; omega) (by omega) (by have := HB.out.size; simp; omega) ?_)
              intro v' w6 hown hgrow hwh
              obtain ⟨ao', cap', rfl⟩ := ownsRow_form hown
              have HB6 := Lib.hid ((HB.out.alloc HB.out.size (.cells [intV k].toArray 3 (0, 0))).grown hgrow (by have := HB.out.size; simp; omega) fun b hb => (HR.out.lt b hb).1)
              have HR6 : Hid (IRow w6 w5.heap.size (.slice ao' ((restTo (grO ns) k).length + 1) cap') (restTo (grO ns) (k + 1))) := by unfold Hid; rw [HS2.out]; exact IRow.add hown
              clear hown hgrow hwh
              go_wp2_with fail
              go_roundg (ns.length - (k + 1))
              case measure => omega
              case rel => exact ⟨k + 1, by go_num, by omega, rfl, HB6.out, HR6.out⟩
          · have hke : k = ns.length := by omega
            subst hke
            go_wp2_with fail
            go_meet
            have e : restL (grO ns) = restTo (grO ns) ns.length := by unfold restL; rw [HNL.out]
            rw [e]
            exact ⟨HB.out, HR.out⟩
      case rest =>
        obtain ⟨hb6, hr6⟩ := hcut
        generalize wc = w6 at *
        obtain ⟨rao, rcap, rfl⟩ := hr6.form
        have hs6 := hb6.size
        have HB6 := Lib.hid (HB5.out.trans (hb6.mono hs15))
        have HB26 := Lib.hid (HB25.out.trans (hb6.mono (Nat.le_of_lt hbd5)))
        have HR6 := Lib.hid hr6
        clear hb6 hr6 HM5 HB25
        have hrl : (restL (grO ns)).length ≤ 1024 := by
          have := restTo_len (grO ns) (grO ns).length
          rw [HNL.out] at this
          unfold restL
          rw [HNL.out]
          omega
        have HRL : Hid (∀ k ∈ restL (grO ns), k < ns.length) := fun k hk => by
          have := restTo_lt hk
          rwa [HNL.out] at this
        go_upto_region 17 with fail
        go_cut [52] (fun s52 wx => ∃ R : List Nat, R.Perm (restL (grO ns)) ∧ R.Pairwise (fun a b => natC (idA (grO ns) a) (idA (grO ns) b) ≤ 0) ∧ IntsAt wx (.slice rao (restL (grO ns)).length rcap) R ∧ Below w5.heap.size w6 wx)
        case first =>
          by_cases h0 : restL (grO ns) = []
          · have hl0 : (restL (grO ns)).length = 0 := by rw [h0]; rfl
            have SF : ∀ W, Hid (Calls Tryz.prog 39 #[.slice rao (restL (grO ns)).length rcap, .func (.func 40) #[] #[.pointer (some ⟨cb, 0, none⟩)]] W fun e w' => e = .returned (.tuple #[]) ∧ w' = W) := fun W => by
              rw [hl0]
              exact Tryz.slices_SortFunc_none_f39 (α := Nat) rao rcap _ W
            have HL0 := Lib.hid h0
            have HLZ := Lib.hid hl0
            clear h0 hl0
            go_wp2_with fail
            refine (SF w6).out.mono ?_
            rintro e w7 ⟨rfl, rfl⟩
            go_wp2_with fail
            go_meet
            exact ⟨[], by rw [HL0.out], List.Pairwise.nil, .inl ⟨_, _, by rw [HLZ.out], rfl⟩, Below.refl _ _⟩
          · obtain ⟨rb, rc, hrv, _, _⟩ := HR6.out.some h0
            injection hrv with e1 e2 e3
            subst e1 e3
            have SF := Lib.hid (csort_any (.slice nao ns.length ncap) ns cb rb rcap w5.heap.size (restL (grO ns)) HRL.out (by omega) h0 HSZ.out w1 w6 HN1.out HC1.out hcb1 HB6.out hs15 HR6.out)
            clear h0
            go_wp2_with fail
            refine SF.out.mono ?_
            rintro e w7 ⟨rfl, R, h1, h2, h3, h4⟩
            have HX : Hid (∃ R : List Nat, R.Perm (restL (grO ns)) ∧ R.Pairwise (fun a b => natC (idA (grO ns) a) (idA (grO ns) b) ≤ 0) ∧ IntsAt w7 (.slice (some ⟨rb, 0, none⟩) (restL (grO ns)).length rcap) R ∧ Below w5.heap.size w6 w7) := ⟨R, h1, h2, h3, h4⟩
            clear h1 h2 h3 h4 SF
            go_wp2_with fail
            go_meet
            exact HX.out
        case rest =>
          obtain ⟨R, hpm, hso, hRi, hb7⟩ := hcut
          generalize wc = w7 at *
          have hle := hpm.length_eq
          rw [← hle] at hRi ⊢
          have hrl7 : R.length ≤ 1024 := by omega
          have HRI := Lib.hid hRi
          have HPM := Lib.hid hpm
          have HSO := Lib.hid hso
          have hs7 := hb7.size
          have HB7 : Hid (Below w1.heap.size w1 w7) := HB6.out.trans ((hb7.mono hs15))
          have HB27 : Hid (Below bd w2 w7) := HB26.out.trans (hb7.mono (Nat.le_of_lt hbd5))
          have hbd7 : bd < w7.heap.size := by omega
          have hs17 := HB7.out.size
          clear hle hRi hpm hso hb7 HR6 HB6 HB26 HRL
          have HRM : Hid (∀ k ∈ R, k < ns.length) := fun k hk => by
            have := restTo_lt (HPM.out.mem_iff.1 hk)
            rwa [HNL.out] at this
          go_wp2_with fail
          go_step3
          go_wp2_with fail
          go_loopg [56, 10] R.length (SeaRel w7 (grO ns) R)
          case atStart => exact ⟨0, rfl, rfl, Nat.zero_le _, rfl, (by intro j hj; cases hj), Below.refl _ _⟩
          case round =>
            obtain ⟨k, rfl, rfl, hk, rfl, hz, hb⟩ := hrel
            have HZ := Lib.hid hz
            have HB := Lib.hid hb
            have HB2r := Lib.hid (HB27.out.trans (hb.mono (Nat.le_of_lt hbd7)))
            clear hz hb
            by_cases hlt : k < R.length
            · have hki : (k : Int) < (R.length : Int) := by omega
              obtain ⟨qb, qoff, rfl, hqb, hqc⟩ := IntsAt.at1 (SlAt.below HRI.out HB.out) hlt
              have hs := HRM.out _ (getD_at hlt)
              have HTK : Hid (R.take (k + 1) = R.take k ++ [R.getD k 0]) := by unfold Hid; rw [List.take_add_one, List.getD, List.getElem?_eq_getElem hlt]; rfl
              have HSP : Hid (R = R.take k ++ R.getD k 0 :: R.drop (k + 1)) := by unfold Hid; rw [← drop_at hlt, List.take_append_drop]
              generalize R.getD k 0 = s at *
              have hnt := HNETW.out wr HB2r.out
              obtain ⟨bm, av, bv, hg, hN, _, hA, hB⟩ := hnt
              have hg3 : wr.cell? ⟨g, 3, none⟩ = some bv := by rw [cell_of_blk hg]; rfl
              have DI := Lib.hid (distances_any bv ns.length s (be (grO ns)) (by have := be_in (grO ns); rwa [HNL.out] at this) (be_len HS.out) hln hs wr hB)
              have hsi : ((s : Nat) : Int) < (ns.length : Int) := by omega
              clear hg hN hA hB
              go_wp2_with fail
              refine DI.out.mono ?_
              rintro e w8 ⟨db, rfl, hdb, hrow, hb8⟩
              have hcd := hrow.cell hs
              have HROW := Lib.hid hrow
              have hsr := HB.out.size
              have HB8 := Lib.hid (HB.out.trans (hb8.mono hsr))
              clear hrow hb8 DI hg3
              by_cases hd0 : distF (be (grO ns)) ns.length s s = 0
              · have hcd0 : w8.cell? ⟨db, s, none⟩ = some (intV 0) := by rw [hcd]; show some (intV _) = _; rw [hd0]
                have HZ2 : Hid (∀ j ∈ R.take (k + 1), distF (be (grO ns)) (grO ns).length j j = 0) := fun j hj => by
                  rw [HTK.out] at hj
                  rcases List.mem_append.1 hj with hj | hj
                  · exact HZ.out j hj
                  · simp at hj; subst hj; rw [HNL.out]; exact hd0
                clear hcd hd0
                as_aux_lemma =>
                go_wp2_with fail
                go_roundg (R.length - (k + 1))
                case measure => omega
                case rel => exact ⟨k + 1, by go_num, rfl, by omega, rfl, HZ2.out, HB8.out⟩
              · have HCS : Hid (cycF (grO ns) = pathC (grO ns) (distF (be (grO ns)) ns.length s) (distF (be (grO ns)) ns.length s s) s) := by
                  have := cycF_at (cyc_start HS.out HPM.out HSO.out HSP.out (fun j hj => HZ.out j hj) (by rw [HNL.out]; omega))
                  rw [HNL.out] at this
                  exact this
                have HNX : Hid (∀ i q, distF (be (grO ns)) ns.length s i = q + 1 → q ≠ 0 → ∃ k, firstF (idA (grO ns)) (nextC (grO ns) (distF (be (grO ns)) ns.length s) i q) = some k ∧ distF (be (grO ns)) ns.length s k = q ∧ k < ns.length) := fun i q h1 h2 => by
                  have := nextC_some HS.out (s := s) (i := i) (m := q) (by rw [HNL.out]; exact h1) h2
                  rwa [HNL.out] at this
                have hDs := distF_le (be (grO ns)) ns.length s s
                have hne0 : (((distF (be (grO ns)) ns.length s s : Nat) : Int) == 0) = false := by rw [beq_eq_false_iff_ne]; omega
                generalize distF (be (grO ns)) ns.length s = D at *
                have hcd2 : w8.cell? ⟨db, s, none⟩ = some (intV (D s)) := hcd
                clear hcd
                go_upto_region 24 with fail
                go_quiet (fail)
                rename_i nq
                have HB9 : Hid (Below w7.heap.size w7 (w8.drewN nq)) := ((Kp.of_below (X := fun _ => False) HB8.out).drewN nq).below (Nat.le_refl _) (fun _ _ => id)
                have HROW9 : Hid ((w8.drewN nq).rowIs db 3 ns.length (oV D)) := HROW.out.of_block rfl
                clear hcd2 HB8 HROW
                generalize w8.drewN nq = w9 at *
                have hs79 := HB9.out.size
                have HB29 : Hid (Below bd w2 w9) := HB27.out.trans (HB9.out.mono (Nat.le_of_lt hbd7))
                have HB19 : Hid (Below w1.heap.size w1 w9) := HB7.out.trans (HB9.out.mono hs17)
                have hbd9 : bd < w9.heap.size := by omega
                have hs19 := HB19.out.size
                go_wp2_with fail
                go_loopg [14, 15, 10] (D s) (PathRel w9 (grO ns) ns.length s D)
                case atStart =>
                  refine ⟨s, D s - 1, [], rfl, ?_, by omega, hs, by omega, by simp; omega, ?_, World.ownsRow_nil _ _ _ _, Below.refl _ _⟩
                  · rw [show D s - 1 + 1 = D s by omega]
                  · rw [show D s - 1 + 1 = D s by omega]; rfl
                case round =>
                  obtain ⟨i, q, acc, rfl, rfl, rfl, hi, hDi, hal, hpath, hrow, hb⟩ := hrel
                  obtain ⟨aao, acap, rfl⟩ := ownsRow_form hrow
                  have HRO := Lib.hid hrow
                  have HB := Lib.hid hb
                  have HPA := Lib.hid hpath
                  have HAL := Lib.hid hal
                  have hal2 : acc.length ≤ ns.length + 1 := by omega
                  have HB1r := Lib.hid (HB19.out.trans (hb.mono hs19))
                  have HNr := Lib.hid (HNETW.out wr (HB29.out.trans (hb.mono (Nat.le_of_lt hbd9))))
                  have hrcd : wr.rowIs db 3 ns.length (oV D) := HROW9.out.of_block (hb.block _ HROW9.out.lt)
                  have HRD := Lib.hid hrcd
                  clear hrow hb hpath hal hrcd
                  have hc1 : wr.cell? ⟨cb, 0, none⟩ = some (.slice nao ns.length ncap) := (HB1r.out.cell (p := ⟨cb, 0, none⟩) hcb1).trans HC1.out
                  obtain ⟨nb, noff, rfl, hnb, hn0, _, _⟩ := (HN1.out.below HB1r.out).at2 hi
                  have hii : (i : Int) < (ns.length : Int) := by omega
                  have HIX := Lib.hid (grO_id ns hi)
                  generalize (ns.getD i default).id = x at *
                  go_wp2_with (at_builtin; refine wpList_append2 rfl _ _ 35 rfl w9.heap.size 9 i9 (.string ByteArray.empty) 1 16 Tryz.underlying35 HI9.out rfl (by decide) _ _ _ rfl (HRO.out.alloc _) ⟨wr.heap.size, 0, none⟩ 1 1 [.string x] rfl rfl (cells_newAt rfl _ 9 (0, 0)) rfl (by unfold maxLen; omega) (by omega) (by have := HB.out.size; simp; omega) ?_)
                  intro v' w10 hown hgrow hwh
                  obtain ⟨ao', cap', rfl⟩ := ownsRow_form hown
                  have HOWN : Hid (w10.ownsRow w9.heap.size 9 1 (.slice ao' (acc.length + 1) cap') (acc ++ [x]).length ((acc ++ [x]).map Value.string)) := by
                    unfold Hid
                    simpa using hown
                  have HB10 := Lib.hid ((HB.out.alloc HB.out.size _).grown hgrow (by have := HB.out.size; simp; omega) (fun j hj => (HRO.out.lt j hj).1))
                  have hwr10 : Below w9.heap.size w9 w10 := HB10.out
                  have HB110 := Lib.hid (HB19.out.trans (hwr10.mono hs19))
                  have HB210 := Lib.hid (HB29.out.trans (hwr10.mono (Nat.le_of_lt hbd9)))
                  have HRD10 : Hid (w10.rowIs db 3 ns.length (oV D)) := HROW9.out.of_block (hwr10.block _ HROW9.out.lt)
                  clear hown hgrow hwh hc1 hn0 hnb HRO HB HNr HRD HB1r hwr10
                  by_cases hq : q = 0
                  · subst hq
                    have HFIN : Hid ((acc ++ [x]).map (·.data.toList) = cycleF (grO ns)) := by
                      unfold Hid
                      rw [HCF.out, HCS.out, ← HPA.out, List.map_append, pathC_one, HIX.out]
                      rfl
                    have hacl : (acc ++ [x]).length = acc.length + 1 := by simp
                    have HST : Hid (StrsAt w10 (.slice ao' (acc.length + 1) cap') (acc ++ [x])) := StrsAt.of_row HOWN.out
                    have HBF := Lib.hid (HBA.out.trans (HB110.out.mono (Nat.le_of_lt hcb1)))
                    clear hacl
                    as_aux_lemma =>
                    go_wp2_with fail
                    try rw [Exit.noGoto_ret]
                    go_ret
                    exact ⟨_, acc ++ [x], rfl, HST.out, HFIN.out, by rw [HCB.out]; exact HBF.out⟩
                  · have hq1 : (((q : Nat) : Int) + 1 == 1) = false := by rw [beq_eq_false_iff_ne]; omega
                    obtain ⟨k2, hk2, hDk, hk2n⟩ := HNX.out i q hDi hq
                    have HPA2 : Hid ((acc ++ [x]).map (·.data.toList) ++ pathC (grO ns) D q k2 = pathC (grO ns) D (D s) s) := by
                      unfold Hid
                      rw [← HPA.out, pathC_more hq hk2, List.map_append, HIX.out, List.append_assoc]
                      rfl
                    have HQ : Hid (∃ q', q = q' + 1) := ⟨q - 1, by omega⟩
                    have hqb : q ≤ 2000 := by have := HAL.out; omega
                    obtain ⟨bm2, av2, bv2, hg2, hN2, _, ⟨bA, VA, rfl, hrA, hvA⟩, _⟩ := HNETW.out w10 HB210.out
                    have hcg2 : w10.cell? ⟨g, 2, none⟩ = some (.slice (some ⟨bA, 0, none⟩) ns.length ns.length) := by rw [cell_of_blk hg2]; rfl
                    have hcg0 : w10.cell? ⟨g, 0, none⟩ = some (.slice (some ⟨nb, noff, none⟩) ns.length ncap) := by rw [cell_of_blk hg2]; rfl
                    have hgl := (Array.getElem?_eq_some_iff.1 hg2).1
                    have hca := hrA.cell hi
                    have hvi := hvA i hi
                    obtain ⟨xao, xcap, hxe⟩ := hvi.form
                    rw [hxe] at hca hvi
                    have HVI := Lib.hid hvi
                    have HN2 := Lib.hid hN2
                    have hal3 := ab_len HS.out i
                    have HAI := Lib.hid (fun k => HS.out.ab_lt (i := i) (k := k))
                    clear hg2 hrA hvA hxe hvi hN2
                    go_upto_block 8 with fail
                    clear hca
                    go_cut [16] (fun s16 wx => Below w10.heap.size w10 wx ∧ IRow wx w10.heap.size s16 (nextC (grO ns) D i q))
                    case first =>
                      go_wp2_with fail
                      go_loopg [96, 16] (ab (grO ns) i).length (NexRel w10 (grO ns) D i q)
                      case atStart => exact ⟨0, rfl, Nat.zero_le _, rfl, Below.refl _ _, IRow.nil _ _⟩
                      case round =>
                        obtain ⟨j, rfl, hj, hjf, hb, hr⟩ := hrel
                        subst hjf
                        obtain ⟨eao, ecap, rfl⟩ := hr.form
                        have HB := Lib.hid hb
                        have HR := Lib.hid hr
                        have hfl : (((ab (grO ns) i).take j).filter fun k => decide (D k = q)).length ≤ 1024 := by
                          have h1 := List.length_filter_le (fun k => decide (D k = q)) ((ab (grO ns) i).take j)
                          rw [List.length_take] at h1
                          omega
                        clear hb hr
                        by_cases hjlt : j < (ab (grO ns) i).length
                        · have hjj : (j : Int) < ((ab (grO ns) i).length : Int) := by omega
                          obtain ⟨xb, xoff, rfl, hxb, hxc⟩ := IntsAt.at1 (SlAt.below HVI.out HB.out) hjlt
                          have hx2 := (HAI.out _ (getD_at hjlt)).1
                          rw [HNL.out] at hx2
                          have HTK2 : Hid ((ab (grO ns) i).take (j + 1) = (ab (grO ns) i).take j ++ [(ab (grO ns) i).getD j 0]) := by unfold Hid; rw [List.take_add_one, List.getD, List.getElem?_eq_getElem hjlt]; rfl
                          generalize (ab (grO ns) i).getD j 0 = x2 at *
                          have hxi : ((x2 : Nat) : Int) < (ns.length : Int) := by omega
                          have hcx : wr.cell? ⟨db, x2, none⟩ = some (intV (D x2)) := (HRD10.out.of_block (HB.out.block _ HRD10.out.lt)).cell hx2
                          by_cases hd2 : D x2 = q
                          · have HT3 : Hid (((ab (grO ns) i).take (j + 1)).filter (fun k => decide (D k = q)) = ((ab (grO ns) i).take j).filter (fun k => decide (D k = q)) ++ [x2]) := by
                              unfold Hid; rw [HTK2.out, List.filter_append]; simp only [List.filter_cons, hd2, decide_true, if_true, List.filter_nil]
                            have hxs : x2 ≠ s := by rintro rfl; have := HAL.out; omega
                            have hxs2 : (((x2 : Nat) : Int) != ((s : Nat) : Int)) = true := by simp; omega
                            rw [hd2] at hcx
                            clear hd2 hxs HTK2
                            generalize ((ab (grO ns) i).take j).filter (fun k => decide (D k = q)) = ff at *
                            as_aux_lemma =>
                            go_wp2_with (at_builtin; refine wpList_append2 rfl _ _ 40 rfl w10.heap.size 3 i3 (.int .i64 0) 1 8 Tryz.underlying40 HI.out rfl (by decide) _ _ _ rfl (World.ownsRow.alloc HR.out _) ⟨wr.heap.size, 0, none⟩ 1 1 [intV x2] rfl rfl (cells_newAt rfl _ 3 (0, 0)) rfl (by unfold maxLen; omega) (by omega) (by have := HB.out.size; simp; omega) ?_)
                            intro v' w11 hown hgrow hwh
                            obtain ⟨ao2, cap2, rfl⟩ := ownsRow_form hown
                            have HB11 := Lib.hid ((HB.out.alloc HB.out.size (.cells [intV x2].toArray 3 (0, 0))).grown hgrow (by have := HB.out.size; simp; omega) fun b hb => (HR.out.lt b hb).1)
                            have HR11 := Lib.hid (IRow.add hown)
                            clear hown hgrow hwh
                            go_wp2_with fail
                            go_roundg ((ab (grO ns) i).length - (j + 1))
                            case measure => omega
                            case rel => exact ⟨j + 1, by go_num, by omega, rfl, HB11.out, by rw [HT3.out]; exact HR11.out⟩
                          · have hne2 : (((D x2 : Nat) : Int) == ((q : Nat) : Int)) = false := by rw [beq_eq_false_iff_ne]; omega
                            have HT3 : Hid (((ab (grO ns) i).take (j + 1)).filter (fun k => decide (D k = q)) = ((ab (grO ns) i).take j).filter (fun k => decide (D k = q))) := by
                              unfold Hid; rw [HTK2.out, List.filter_append]; simp only [List.filter_cons, hd2, decide_false, Bool.false_eq_true, if_false, List.filter_nil, List.append_nil]
                            clear hd2 HTK2
                            as_aux_lemma =>
                            go_wp2_with fail
                            go_roundg ((ab (grO ns) i).length - (j + 1))
                            case measure => omega
                            case rel => exact ⟨j + 1, by go_num, by omega, rfl, HB.out, by rw [HT3.out]; exact HR.out⟩
                        · have hje : j = (ab (grO ns) i).length := by omega
                          subst hje
                          have HF3 : Hid (((ab (grO ns) i).take (ab (grO ns) i).length).filter (fun k => decide (D k = q)) = nextC (grO ns) D i q) := by unfold Hid nextC; rw [List.take_length]
                          rw [HF3.out] at HR ⊢
                          go_wp2_with fail
                          go_meet
                          exact ⟨HB.out, HR.out⟩
                    case rest =>
                      obtain ⟨hb11, hr11⟩ := hcut
                      generalize wc = w11 at *
                      obtain ⟨eao, ecap, rfl⟩ := hr11.form
                      have hs10 := HB10.out.size
                      have HB11 := Lib.hid (HB10.out.trans (hb11.mono hs10))
                      have HBX := Lib.hid hb11
                      have hcg11 : w11.cell? ⟨g, 0, none⟩ = some (.slice (some ⟨nb, noff, none⟩) ns.length ncap) := (hb11.cell (p := ⟨g, 0, none⟩) hgl).trans hcg0
                      have hnl : (nextC (grO ns) D i q).length ≤ 1024 := by
                        have h1 := List.length_filter_le (fun k => decide (D k = q)) (ab (grO ns) i)
                        unfold nextC
                        omega
                      have FA := first_any g _ _ ns (nextC (grO ns) D i q) (fun k hk => by
                        unfold nextC at hk
                        rw [List.mem_filter] at hk
                        have := (HAI.out k hk.1).1
                        rwa [HNL.out] at this) HSZ.out (by omega) w11 (HN2.out.below hb11) hcg11 (Nat.lt_of_lt_of_le hgl hb11.size) hr11.at
                      rw [hk2] at FA
                      simp only [optI] at FA
                      have FA := Lib.hid FA
                      clear hb11 hr11 hcg11 hcg0 hcg2 hk2 HN2 HVI
                      generalize nextC (grO ns) D i q = nx at *
                      go_wp2_with fail
                      refine FA.out.mono ?_
                      rintro e w12 ⟨rfl, hu12⟩
                      have hs11 := HB11.out.size
                      have HB12 := Lib.hid (HB11.out.trans (hu12.b.mono hs11))
                      have HOWN12 : Hid (w12.ownsRow w9.heap.size 9 1 (.slice ao' (acc.length + 1) cap') (acc ++ [x]).length ((acc ++ [x]).map Value.string)) := ownsRow_below HOWN.out (HBX.out.trans (hu12.b.mono HBX.out.size))
                      clear hu12 FA
                      obtain ⟨q', hq'⟩ := HQ.out
                      as_aux_lemma =>
                      go_wp2_with fail
                      go_roundg q
                      case measure => omega
                      case rel => exact ⟨k2, q', acc ++ [x], rfl, by rw [← hq']; go_num, by omega, hk2n, by rw [← hq']; exact hDk, by have := HAL.out; simp; omega, by rw [← hq']; exact HPA2.out, by simpa using HOWN12.out, HB12.out⟩
            · have hke : k = R.length := by omega
              subst hke
              have HFIN : Hid (cycleF (grO ns) = []) := by
                unfold Hid
                rw [HCF.out]
                exact cyc_none HS.out HPM.out (fun j hj => HZ.out j (by rw [List.take_length]; exact hj))
              have HBF := Lib.hid (HBA.out.trans ((HB7.out.trans (HB.out.mono hs17)).mono (Nat.le_of_lt hcb1)))
              go_wp2_with fail
              try rw [Exit.noGoto_ret]
              go_ret
              exact ⟨_, [], rfl, .inl ⟨_, _, rfl, rfl⟩, by rw [HFIN.out]; rfl, by rw [HCB.out]; exact HBF.out⟩
  · have hp := h1 hf
    subst hp
    have HV : Hid (cycleF (grO ns) = []) := by unfold Hid cycleF; rw [if_pos hf]
    clear h0 h1
    generalize formedF (grO ns) = fe at *
    have hfi : ((fe : Int) != 0) = true := by simp; exact hf
    have HBF := Lib.hid (HBA.out.trans (HB2.out.mono (by omega)))
    go_wp2_with fail
    try rw [Exit.noGoto_ret]
    go_ret
    exact ⟨_, [], rfl, .inl ⟨_, _, rfl, rfl⟩, by rw [HV.out]; rfl, by rw [HCB.out]; exact HBF.out⟩
end Go.Proofs.YtfegmmafcopbpaaGreatDoor
