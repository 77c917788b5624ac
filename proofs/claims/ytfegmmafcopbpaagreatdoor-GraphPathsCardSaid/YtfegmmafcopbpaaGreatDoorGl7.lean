/- The law GraphPaths: its walk. -/
import Derived.Test.YtfegmmafcopbpaaGreatDoorGl2
import Derived.Test.YtfegmmafcopbpaaGreatDoorRg5
import Derived.Test.YtfegmmafcopbpaaGreatDoorGd3
namespace Go.Proofs.YtfegmmafcopbpaaGreatDoor
open Go.RowKit

theorem tmod_natP (a b : Nat) : Int.tmod (a : Int) (b : Int) = ((a % b : Nat) : Int) := by
  rw [Int.tmod_eq_emod_of_nonneg (by omega)]
  rfl
theorem badZ_all {cs : List Int} (h : ∀ j, j < cs.length → 0 ≤ cs.getD j 0 ∧ cs.getD j 0 ≤ 1125899906842624) : cs.any badZ = false := by
  rw [List.any_eq_false]
  intro z hz
  obtain ⟨j, hj, rfl⟩ := List.getElem_of_mem hz
  have h1 := h j hj
  rw [List.getD, List.getElem?_eq_getElem hj] at h1
  simp only [Option.getD_some] at h1
  unfold badZ
  simp
  omega
theorem costN_le {cs : List Int} (h : ∀ j, j < cs.length → 0 ≤ cs.getD j 0 ∧ cs.getD j 0 ≤ 1125899906842624) (k : Nat) : costN cs k ≤ 1125899906842624 := by
  unfold costN
  by_cases hk : k < cs.length
  · have := h k hk; omega
  · rw [List.getD, List.getElem?_eq_none (by omega)]; simp
theorem sumC_take (G : Gr) (C : Nat → Nat) (p : List Bs) {i : Nat} {b : Bs} (h : p[i]? = some b) : sumC G C (p.take (i + 1)) = sumC G C (p.take i) + C (posG G b) := by
  unfold sumC
  rw [List.take_add_one, h, List.map_append, List.sum_append]
  simp
theorem sumC_le (G : Gr) (C : Nat → Nat) (p : List Bs) (i : Nat) : sumC G C (p.take i) ≤ sumC G C p := by
  unfold sumC
  conv => rhs; rw [← List.take_append_drop i p]
  rw [List.map_append, List.sum_append]
  omega

theorem pathQ_len (G : Gr) (B C : Nat → Nat) : ∀ (f i : Nat), (pathQ G B C f i).length ≤ f
  | 0, _ => by rw [pathQ]; exact Nat.le_refl _
  | f + 1, i => by
    rw [pathQ]
    split
    · simp
    · split
      · simp
      · have := pathQ_len G B C f
        simp [this]
theorem crit_len (G : Gr) (C : Nat → Nat) : (critF G C).2.length ≤ G.length := by
  unfold critF
  simp only
  split
  · simp
  · exact pathQ_len _ _ _ _ _
def CosRel (w1 : World) (cs : List Int) (f : Nat) (t7 : Value) (wr : World) : Prop :=
  ∃ i : Nat, t7 = .int .i64 (i : Nat) ∧ i ≤ cs.length ∧ f = cs.length - i ∧ (∀ j, j < i → 0 ≤ cs.getD j 0 ∧ cs.getD j 0 ≤ 1125899906842624) ∧ wr = w1
def SumRel (w1 : World) (G : Gr) (C : Nat → Nat) (p : List Bs) (f : Nat) (t10 t11 _t12 : Value) (wr : World) : Prop :=
  ∃ i : Nat, t11 = .int .i64 (i : Nat) ∧ i ≤ p.length ∧ f = p.length - i ∧ t10 = .int .i64 ((sumC G C (p.take i) : Nat) : Int) ∧ Below w1.heap.size w1 wr
def WayRel (w1 : World) (G : Gr) (C : Nat → Nat) (f : Nat) (t13 t14 t15 _t16 : Value) (wr : World) : Prop :=
  ∃ i at_ all : Nat, t13 = .int .i64 (at_ : Nat) ∧ t14 = .int .i64 (all : Nat) ∧ t15 = .int .i64 (i : Nat) ∧ i ≤ G.length + 1 ∧ f = G.length + 1 - i ∧ at_ < G.length ∧ all + C at_ ≤ bestQ G C at_ ∧ Below w1.heap.size w1 wr
theorem zs_at {kd : IntKind} {w : World} {ao : Option Addr} {n cap : Nat} {zs : List Int} (h : SlAt 1 (fun z => [Value.int kd z]) w (.slice ao n cap) zs) {k : Nat} (hk : k < zs.length) :
    ∃ b off, ao = some ⟨b, off, none⟩ ∧ b < w.heap.size ∧ w.cell? ⟨b, off + k, none⟩ = some (.int kd (zs.getD k 0)) := by
  obtain ⟨b, off, h1, h2, h3⟩ := SlAt.at_ h hk
  refine ⟨b, off, h1, h2, ?_⟩
  have := h3 0 (.int kd (zs.getD k 0)) (by rw [List.getD, List.getElem?_eq_getElem hk]; rfl)
  rwa [Nat.mul_one, Nat.add_zero] at this

set_option maxRecDepth 100000 in
set_option maxHeartbeats 6400000 in
theorem paths_law (nv cv dv : Value) (ns : List Nd) (cs us : List Int) (hul : us.length ≤ 9223372036854775807) (hnl : ∀ x ∈ ns, x.needs.length ≤ 9223372036854775807) (huw : ∀ z ∈ us, 0 ≤ z ∧ z ≤ 255) (m : Int) (w : World) (hN : NdAt w nv ns) (hC : ZsAt w cv cs) (hU : SlAt 1 (fun z => [Value.int .u8 z]) w dv us) (hm : w.cell? ⟨0, 0, none⟩ = some (.int .i64 m)) (hml : 0 < w.heap.size) :
    Calls Tryz.prog 10 #[nv, cv, dv] w (LawPost w) := by
  have MX : ∀ W, Below w.heap.size w W → W.cell? ⟨0, 0, none⟩ = some (.int .i64 m) ∧ 0 < W.heap.size := fun W hW => ⟨(hW.cell (p := ⟨0, 0, none⟩) hml).trans hm, Nat.lt_of_lt_of_le hml hW.size⟩
  have SM := Lib.hid (small_any nv ns 200 (by decide) w hN)
  have AW := fun W (hW : Below w.heap.size w W) => Lib.hid (awake_any m W (MX W hW).1 (MX W hW).2)
  have VA : ns.length ≤ 200 → Hid (Calls Tryz.prog 16 #[nv] w fun e w' => e = .returned (.int .i64 (validF (grO ns) : Nat)) ∧ Below w.heap.size w w') := fun h => valid_any nv ns m (by omega) w hN hm hml
  have CR : ns.length ≤ 200 → ∀ W, Below w.heap.size w W → Hid (Calls Tryz.prog 27 #[nv, cv] W (CritPost (grO ns) cs W)) := fun h W hW => critical_any nv cv ns cs m (by omega) (fun e => by omega) W (hN.below hW) (SlAt.below hC hW) (MX W hW).1 (MX W hW).2
  have FA : ns.length ≤ 200 → ∀ s W, Below w.heap.size w W → Hid (Calls Tryz.prog 31 #[nv, .string s] W fun e w' => e = .returned (.int .i64 (findF (idsG (grO ns)) s.data.toList)) ∧ w' = W) := fun h s W hW => find_any nv ns s (by omega) W (hN.below hW)
  have HN := Lib.hid hN
  have HNL := Lib.hid hnl
  have HC := Lib.hid hC
  have HU := Lib.hid hU
  have HUW : Hid (∀ j, j < us.length → 0 ≤ us.getD j 0 ∧ us.getD j 0 ≤ 255) := fun j hj => huw _ (by rw [List.getD, List.getElem?_eq_getElem hj]; exact List.getElem_mem hj)
  have HL := Lib.hid (grO_len ns)
  obtain ⟨ao, cap, rfl⟩ := hN.sl.form
  obtain ⟨cao, ccap, rfl⟩ := hC.form
  obtain ⟨dao, dcap, rfl⟩ := hU.form
  clear hN hC hU hm hml MX huw hnl
  go_enter Tryz.func10, Tryz.ntmps10
  have B0 := Lib.hid (Below.refl w.heap.size w)
  by_cases hs : smallF ns 200 = true
  · have hl := small_len hs
    have VA := VA hl
    have CR := CR hl
    have FA := FA hl
    rw [hs] at SM
    clear hs
    by_cases hv : validF (grO ns) = 0
    · have hf0 : formedF (grO ns) = 0 := by
        unfold validF at hv
        by_cases h2 : formedF (grO ns) = 0
        · exact h2
        · rw [if_pos (by simpa using h2)] at hv; exact hv
      have hS := formed_sound hf0
      have hfu : (ordG (grO ns)).length = (grO ns).length := by
        unfold validF at hv
        rw [if_neg (show ¬ formedF (grO ns) ≠ 0 by simp [hf0])] at hv
        have := (ordG_listed (grO ns)).len
        by_cases h : (ordG (grO ns)).length < (grO ns).length
        · rw [if_pos h] at hv; cases hv
        · omega
      have HS := Lib.hid hS
      have HFU := Lib.hid hfu
      have HV := Lib.hid hv
      rw [hv] at VA
      clear hv hf0 hfu
      by_cases hcl : cs.length = ns.length
      · have hci : (((cs.length : Nat) : Int) != ((ns.length : Nat) : Int)) = false := by rw [hcl]; simp
        by_cases hp : ns.length = 0
        · have hpi : (((ns.length : Nat) : Int) == 0) = true := by rw [hp]; rfl
          clear CR FA hcl hp
          as_aux_lemma =>
          go_wp2_with fail
          refine SM.out.mono ?_
          rintro e w1 ⟨rfl, rfl⟩
          go_wp2_with fail
          refine VA.out.mono ?_
          rintro e w2 ⟨rfl, hb⟩
          have B2 := Lib.hid hb
          clear hb
          go_wp2_with fail
          refine (AW _ B2.out).out.mono ?_
          rintro e w3 ⟨rfl, hb⟩
          have HB := Lib.hid (B2.out.trans (hb.mono B2.out.size))
          clear hb
          go_wp2_with fail
          go_ret
          exact ⟨rfl, HB.out⟩
        · have hpi : (((ns.length : Nat) : Int) == 0) = false := by rw [beq_eq_false_iff_ne]; omega
          have HCL := Lib.hid hcl
          have hcl2 : cs.length ≤ 200 := by rw [hcl]; exact hl
          clear hcl
          go_wp2_with fail
          refine SM.out.mono ?_
          rintro e w1 ⟨rfl, rfl⟩
          go_wp2_with fail
          refine VA.out.mono ?_
          rintro e w2 ⟨rfl, hb⟩
          have B2 := Lib.hid hb
          have hbs2 := hb.size
          clear hb VA SM
          go_wp2_with fail
          go_loopg [7] cs.length (CosRel w2 cs)
          case atStart => exact ⟨0, rfl, Nat.zero_le _, rfl, fun j hj => absurd hj (Nat.not_lt_zero j), rfl⟩
          case round =>
            obtain ⟨i, rfl, hi, rfl, hall, rfl⟩ := hrel
            have HALL := Lib.hid hall
            clear hall
            by_cases hlt : i < cs.length
            · have hii : ((i : Nat) : Int) < (cs.length : Int) := by omega
              obtain ⟨b, off, rfl, hbl, hcc⟩ := zs_at (HC.out.below B2.out) hlt
              have HNX : Hid ((0 ≤ cs.getD i 0 ∧ cs.getD i 0 ≤ 1125899906842624) → ∀ j, j < i + 1 → 0 ≤ cs.getD j 0 ∧ cs.getD j 0 ≤ 1125899906842624) := fun h j hj => by
                by_cases e : j = i
                · subst e; exact h
                · exact HALL.out j (by omega)
              generalize cs.getD i 0 = z at *
              by_cases h1 : z < 0
              · clear CR FA
                as_aux_lemma =>
                go_wp2_with fail
                refine (AW _ B2.out).out.mono ?_
                rintro e w3 ⟨rfl, hb⟩
                have HB := Lib.hid (B2.out.trans (hb.mono B2.out.size))
                clear hb
                go_wp2_with fail
                go_ret
                exact ⟨rfl, HB.out⟩
              · by_cases h2 : 1125899906842624 < z
                · clear CR FA
                  as_aux_lemma =>
                  go_wp2_with fail
                  refine (AW _ B2.out).out.mono ?_
                  rintro e w3 ⟨rfl, hb⟩
                  have HB := Lib.hid (B2.out.trans (hb.mono B2.out.size))
                  clear hb
                  go_wp2_with fail
                  go_ret
                  exact ⟨rfl, HB.out⟩
                · have HN2 := Lib.hid (HNX.out ⟨by omega, by omega⟩)
                  clear CR FA HNX
                  as_aux_lemma =>
                  go_wp2_with fail
                  go_roundg (cs.length - (i + 1))
                  case measure => omega
                  case rel => exact ⟨i + 1, by go_num, by omega, rfl, HN2.out, rfl⟩
            · have he : i = cs.length := by omega
              rw [he] at HALL
              clear he
              have hbad := badZ_all HALL.out
              have hCle := costN_le HALL.out
              have hgl : (grO ns).length ≠ 0 := by rw [HL.out]; exact hp
              have HCE : Hid (criticalF (grO ns) cs = critF (grO ns) (costN cs)) := by
                unfold Hid criticalF
                rw [if_neg]
                simp only [not_or, Decidable.not_not, Bool.not_eq_true]
                exact ⟨HV.out, by rw [HL.out]; exact HCL.out, hbad, hgl⟩
              obtain ⟨cf1, cf2, cf3, cf4⟩ := crit_facts HS.out HFU.out hgl (costN cs)
              have hmb := most_bound (G := grO ns) hCle hgl
              have hpn := crit_len (grO ns) (costN cs)
              rw [HL.out] at hpn
              rw [HL.out] at hmb
              have HWM : Hid (∀ k, k < ns.length → bestQ (grO ns) (costN cs) k ≤ (critF (grO ns) (costN cs)).1) := fun k hk => way_most (costN cs) (by rw [HL.out]; exact hk)
              have HCLE := Lib.hid hCle
              have HZ : Hid (∀ k, k < ns.length → (cs.getD k 0) = ((costN cs k : Nat) : Int)) := fun k hk => by
                have h1 := HALL.out k (by rw [HCL.out]; exact hk)
                unfold costN
                omega
              have CR1 := (CR wr B2.out).out
              unfold CritPost at CR1
              rw [HCE.out] at CR1
              have CR2 := Lib.hid CR1
              obtain ⟨M, hM⟩ : ∃ M, (critF (grO ns) (costN cs)).1 = M := ⟨_, rfl⟩
              obtain ⟨p, hP⟩ : ∃ p, (critF (grO ns) (costN cs)).2 = p := ⟨_, rfl⟩
              rw [hM, hP] at CR2
              rw [hM] at HWM hmb
              rw [hP] at cf1 cf2 cf3 cf4 hpn
              rw [hM] at cf1
              have CF1 := Lib.hid cf1
              have CF2 := Lib.hid cf2
              have CF3 := Lib.hid cf3
              have CF4 := Lib.hid cf4
              have hMb : M ≤ 225179981368524800 := by
                have : ns.length * 1125899906842624 ≤ 200 * 1125899906842624 := Nat.mul_le_mul_right _ hl
                omega
              clear hM hP cf1 cf2 cf3 cf4 hbad hCle hgl hmb HCE CR1 CR HV HALL
              go_wp2_with fail
              refine CR2.out.mono ?_
              rintro e w3 ⟨sv, ss, rfl, hss, hsd, hb⟩
              have HSS := Lib.hid hss
              have HSD : Hid (dts ss = p) := hsd
              have B3 := Lib.hid (B2.out.trans (hb.mono hbs2))
              have hbs3 := B3.out.size
              have HPL : Hid (ss.length = p.length) := by unfold Hid; rw [← HSD.out, dts_len]
              obtain ⟨sao, scap, rfl⟩ := hss.form
              clear hss hsd hb CR2
              go_wp2_with fail
              go_loopg [10, 11, 12] p.length (SumRel w3 (grO ns) (costN cs) p)
              case atStart => exact ⟨0, rfl, Nat.zero_le _, rfl, by simp [sumC], Below.refl _ _⟩
              case round =>
                obtain ⟨i, rfl, hi, rfl, rfl, hbr⟩ := hrel
                have HBR := Lib.hid hbr
                have HBW := Lib.hid (B3.out.trans (hbr.mono hbs3))
                have hst2 := HSS.out.below hbr
                clear hbr
                by_cases hlt : i < p.length
                · have hil : i < ss.length := by rw [HPL.out]; exact hlt
                  have hii : ((i : Nat) : Int) < (ss.length : Int) := by omega
                  have hxi := dts_at ss hil
                  rw [HSD.out] at hxi
                  have hxm := CF4.out _ (List.mem_of_getElem? hxi)
                  have hk : posG (grO ns) (ss.getD i ByteArray.empty).data.toList < ns.length := by have := posG_lt hxm; rwa [HL.out] at this
                  have HSU := Lib.hid (sumC_take (grO ns) (costN cs) p hxi)
                  have hsu1 := sumC_le (grO ns) (costN cs) p i
                  have hsu2 := sumC_le (grO ns) (costN cs) p (i + 1)
                  rw [CF1.out] at hsu1 hsu2
                  rw [HSU.out] at hsu2
                  have F1 := FA (ss.getD i ByteArray.empty) wr HBW.out
                  rw [find_pos hxm] at F1
                  obtain ⟨sb, soff, rfl, hsb, hsc⟩ := hst2.at_ hil
                  obtain ⟨cb, coff, rfl, hcb, hcc⟩ := zs_at (HC.out.below HBW.out) (show posG (grO ns) (ss.getD i ByteArray.empty).data.toList < cs.length by rw [HCL.out]; exact hk)
                  rw [HZ.out _ hk] at hcc
                  have HCC : Hid (∀ W, Below w1.heap.size w1 W → W.cell? ⟨cb, coff + posG (grO ns) (ss.getD i ByteArray.empty).data.toList, none⟩ = some (.int .i64 ((costN cs (posG (grO ns) (ss.getD i ByteArray.empty).data.toList) : Nat) : Int))) := fun W hW => by
                    obtain ⟨cb', coff', e', _, hc'⟩ := zs_at (HC.out.below hW) (show posG (grO ns) (ss.getD i ByteArray.empty).data.toList < cs.length by rw [HCL.out]; exact hk)
                    injection e' with e'
                    injection e' with e1 e2
                    subst e1 e2
                    rw [HZ.out _ hk] at hc'
                    exact hc'
                  have hcnl : ((costN cs (posG (grO ns) (ss.getD i ByteArray.empty).data.toList) : Nat) : Int) ≤ 1125899906842624 := by have := HCLE.out (posG (grO ns) (ss.getD i ByteArray.empty).data.toList); omega
                  by_cases h0 : i = 0
                  · have hi0 : decide ((0 : Int) < ((i : Nat) : Int)) = false := decide_eq_false (by omega)
                    have hi0n : decide (0 < i) = false := decide_eq_false (by omega)
                    clear h0
                    generalize posG (grO ns) (ss.getD i ByteArray.empty).data.toList = k at *
                    generalize ss.getD i ByteArray.empty = x at *
                    generalize costN cs k = ck at *
                    generalize hsm : sumC (grO ns) (costN cs) (p.take i) = sm at *
                    have HSM := Lib.hid hsm
                    clear hxi hxm hsm
                    have hki : ((k : Nat) : Int) < (ns.length : Int) := by omega
                    have hkc : ((k : Nat) : Int) < (cs.length : Int) := by have := HCL.out; omega
                    have hk0 : decide (((k : Nat) : Int) < 0) = false := decide_eq_false (by omega)
                    have hk0' : (0 : Int) ≤ ((k : Nat) : Int) := by omega
                    as_aux_lemma =>
                    go_wp2_with fail
                    refine F1.out.mono ?_
                    rintro e w4 ⟨rfl, rfl⟩
                    go_upto_region 14 with fail
                    go_quiet (fail)
                    rename_i nq
                    have HB9 : Hid (Below w3.heap.size w3 (w4.drewN nq)) := HBR.out.trans ((below_drewN w4 nq).mono HBR.out.size)
                    have hcq := HCC.out (w4.drewN nq) (HBW.out.trans ((below_drewN w4 nq).mono HBW.out.size))
                    generalize w4.drewN nq = w9 at *
                    go_wp2_with fail
                    go_roundg (p.length - (i + 1))
                    case measure => omega
                    case rel => exact ⟨i + 1, by go_num, by omega, rfl, by rw [HSU.out]; go_num, HB9.out⟩
                  · have hi0 : (0 : Int) < ((i : Nat) : Int) := by omega
                    have hi1 : (1 : Int) ≤ ((i : Nat) : Int) := by omega
                    have hi0n : 0 < i := by omega
                    have hil1 : i - 1 < ss.length := by omega
                    have hyi := dts_at ss hil1
                    rw [HSD.out] at hyi
                    have HCH := Lib.hid (CF2.out (i - 1) _ _ hyi (by rw [show i - 1 + 1 = i by omega]; exact hxi))
                    obtain ⟨nb, noff, rfl, hnb, _, hnc, hsx⟩ := (HN.out.below HBW.out).at2 hk
                    have HX := Lib.hid (grO_need ns hk)
                    obtain ⟨sb', soff', hsb', _, hsc1⟩ := hst2.at_ hil1
                    injection hsb' with hsb'
                    injection hsb' with e1 e2
                    subst e1 e2
                    have hnl := HNL.out (ns.getD (posG (grO ns) (ss.getD i ByteArray.empty).data.toList) default) (by rw [List.getD, List.getElem?_eq_getElem hk]; exact List.getElem_mem hk)
                    have HST := fun W (hW : Below w1.heap.size w1 W) => Lib.hid ((HN.out.below hW).st (ns.getD (posG (grO ns) (ss.getD i ByteArray.empty).data.toList) default) (by rw [List.getD, List.getElem?_eq_getElem hk]; exact List.getElem_mem hk))
                    obtain ⟨xao, xcap, hxe⟩ := hsx.form
                    rw [hxe] at hnc HST
                    clear h0 hxe hsx
                    rw [HX.out] at HCH
                    have hcap := hst2.lenle (by omega)
                    generalize (ns.getD (posG (grO ns) (ss.getD i ByteArray.empty).data.toList) default).needs = nl at *
                    generalize posG (grO ns) (ss.getD i ByteArray.empty).data.toList = k at *
                    generalize ss.getD i ByteArray.empty = x at *
                    generalize ss.getD (i - 1) ByteArray.empty = y at *
                    generalize costN cs k = ck at *
                    generalize hsm : sumC (grO ns) (costN cs) (p.take i) = sm at *
                    have HSM := Lib.hid hsm
                    clear hxi hxm hyi hsm
                    have HA := fun W (hW : Below w1.heap.size w1 W) => Lib.hid (has_any _ nl y (by omega) W (HST W hW).out)
                    have hmem : y.data.toList ∈ dts nl := HCH.out
                    have hki : ((k : Nat) : Int) < (ns.length : Int) := by omega
                    have hkc : ((k : Nat) : Int) < (cs.length : Int) := by have := HCL.out; omega
                    have hk0 : decide (((k : Nat) : Int) < 0) = false := decide_eq_false (by omega)
                    have hk0' : (0 : Int) ≤ ((k : Nat) : Int) := by omega
                    have hw1 : IntKind.i64.wrap (((i : Nat) : Int) - 1) = ((i : Nat) : Int) - 1 := IntWalk.i64_in _ (by omega)
                    have hw2 : (0 : Int) ≤ ((i : Nat) : Int) - 1 := by omega
                    have hw3 : (((i : Nat) : Int) - 1).toNat = i - 1 := by omega
                    have hw4 : ((i : Nat) : Int) - 1 < (ss.length : Int) := by omega
                    have HA1 := HA wr.drew HBW.out.drew
                    rw [decide_eq_true hmem] at HA1
                    clear hmem HA HST
                    as_aux_lemma =>
                    go_wp2_with fail
                    refine F1.out.mono ?_
                    rintro e w4 ⟨rfl, rfl⟩
                    go_upto_region 14 with fail
                    go_still_tail 16, (by kernel_rfl)
                    change wpList _ _ _ _ _ (World.drew _)
                    have HB9 : Hid (Below w3.heap.size w3 w4.drew) := HBR.out.drew
                    have hcq := HCC.out w4.drew HBW.out.drew
                    generalize w4.drew = w9 at *
                    go_wp2_with fail
                    refine HA1.out.mono ?_
                    rintro e w10 ⟨rfl, rfl⟩
                    go_wp2_with fail
                    go_roundg (p.length - (i + 1))
                    case measure => omega
                    case rel => exact ⟨i + 1, by go_num, by omega, rfl, by rw [HSU.out]; go_num, HB9.out⟩
                · have he : i = p.length := by omega
                  have hsum : sumC (grO ns) (costN cs) (p.take i) = M := by rw [he, List.take_length]; exact CF1.out
                  have hpp : p.length ≠ 0 := fun e => CF3.out (List.length_eq_zero_iff.1 e)
                  have hsl0 : ((ss.length : Int) == 0) = false := by rw [beq_eq_false_iff_ne]; have := HPL.out; omega
                  have hii : ¬ ((i : Nat) : Int) < (ss.length : Int) := by have := HPL.out; omega
                  have q1 : IntKind.i64.wrap ((ns.length : Int) - 1) = ((ns.length - 1 : Nat) : Int) := by rw [show ((ns.length : Int) - 1) = ((ns.length - 1 : Nat) : Int) by omega]; exact IntWalk.i64_in _ (by omega)
                  have HWF : Hid (0 + costN cs (ns.length - 1) ≤ bestQ (grO ns) (costN cs) (ns.length - 1)) := by
                    have := way_first HS.out HFU.out (costN cs) (k := ns.length - 1) (by rw [HL.out]; omega)
                    unfold Hid
                    omega
                  have HWS := Lib.hid (fun at_ k all (h1 : k ∈ ab (grO ns) at_) h2 => way_step HS.out HFU.out (costN cs) (at_ := at_) (k := k) (all := all) h1 h2)
                  rw [hsum]
                  have hmm : (((M : Nat) : Int) != ((M : Nat) : Int)) = false := by simp
                  clear hsum he hpp CF1 CF2 CF3 CF4 HSS HSD
                  go_wp2_with fail
                  clear hii hsl0
                  go_loopg [13, 14, 15, 16] (ns.length + 1) (WayRel w3 (grO ns) (costN cs))
                  case atStart => exact ⟨0, ns.length - 1, 0, rfl, rfl, rfl, Nat.zero_le _, by rw [HL.out]; rfl, by rw [HL.out]; omega, HWF.out, HBR.out⟩
                  case round =>
                    obtain ⟨i, at_, all, rfl, rfl, rfl, hi, hff, hat, hall, hbr⟩ := hrel
                    rw [HL.out] at hi hff hat
                    subst hff
                    have hwm := HWM.out at_ hat
                    have hallM : all + costN cs at_ ≤ M := by omega
                    have HALL := Lib.hid hall
                    have HBR2 := Lib.hid hbr
                    have HBX := Lib.hid (B3.out.trans (hbr.mono hbs3))
                    clear hbr hall hwm
                    by_cases hlt : i ≤ ns.length
                    · have hli : ((i : Nat) : Int) ≤ (ns.length : Int) := by omega
                      obtain ⟨cb, coff, rfl, hcb, hcc⟩ := zs_at (HC.out.below HBX.out) (show at_ < cs.length by rw [HCL.out]; exact hat)
                      rw [HZ.out _ hat] at hcc
                      obtain ⟨nb, noff, rfl, hnb, _, hnc, hsx⟩ := (HN.out.below HBX.out).at2 hat
                      have HX := Lib.hid (grO_need ns hat)
                      have hnl := HNL.out (ns.getD at_ default) (by rw [List.getD, List.getElem?_eq_getElem hat]; exact List.getElem_mem hat)
                      have HST := Lib.hid hsx
                      obtain ⟨xao, xcap, hxe⟩ := hsx.form
                      rw [hxe] at hnc HST
                      clear hxe hsx
                      generalize (ns.getD at_ default).needs = nl at *
                      have hai : ((at_ : Nat) : Int) < (ns.length : Int) := by omega
                      have hac : ((at_ : Nat) : Int) < (cs.length : Int) := by have := HCL.out; omega
                      have ha0 : (0 : Int) ≤ ((at_ : Nat) : Int) := by omega
                      have HAL : Hid (all + costN cs at_ ≤ bestQ (grO ns) (costN cs) at_) := HALL.out
                      generalize costN cs at_ = ck at *
                      have hle : ((all : Nat) : Int) + ((ck : Nat) : Int) ≤ ((M : Nat) : Int) := by omega
                      by_cases hl0 : nl.length = 0
                      · have hl0i : ((nl.length : Int) == 0) = true := by rw [beq_iff_eq]; omega
                        clear hl0
                        as_aux_lemma =>
                        go_wp2_with fail
                        refine (AW _ HBX.out).out.mono ?_
                        rintro e w8 ⟨rfl, hb⟩
                        have HBY := Lib.hid (HBX.out.trans (hb.mono HBX.out.size))
                        clear hb
                        go_wp2_with fail
                        go_ret
                        exact ⟨rfl, HBY.out⟩
                      · have hl0i : ((nl.length : Int) == 0) = false := by rw [beq_eq_false_iff_ne]; omega
                        by_cases hge : us.length ≤ i
                        · have hgi : (us.length : Int) ≤ ((i : Nat) : Int) := by omega
                          clear hl0 hge
                          as_aux_lemma =>
                          go_wp2_with fail
                          refine (AW _ HBX.out).out.mono ?_
                          rintro e w8 ⟨rfl, hb⟩
                          have HBY := Lib.hid (HBX.out.trans (hb.mono HBX.out.size))
                          clear hb
                          go_wp2_with fail
                          go_ret
                          exact ⟨rfl, HBY.out⟩
                        · have hgi : decide ((us.length : Int) ≤ ((i : Nat) : Int)) = false := decide_eq_false (by omega)
                          have hgl : ((i : Nat) : Int) < (us.length : Int) := by omega
                          have hil : i < us.length := by omega
                          obtain ⟨ub, uoff, rfl, hub, huc⟩ := zs_at (HU.out.below HBX.out) hil
                          obtain ⟨u, hu⟩ : ∃ u : Nat, us.getD i 0 = (u : Nat) := ⟨(us.getD i 0).toNat, by have := HUW.out i hil; omega⟩
                          have hu255 : u ≤ 255 := by have := HUW.out i hil; omega
                          rw [hu] at huc
                          have hr : u % nl.length < nl.length := Nat.mod_lt _ (by omega)
                          have hti := tmod_natP u nl.length
                          obtain ⟨lb, loff, rfl, hlb, hlc⟩ := HST.out.at_ hr
                          have hyi := dts_at nl hr
                          have hym : (nl.getD (u % nl.length) ByteArray.empty).data.toList ∈ needA (grO ns) at_ := by rw [HX.out]; exact List.mem_of_getElem? hyi
                          have hyd := HS.out.need hym
                          have HAB := Lib.hid (ab_of_need hym)
                          have F1 := FA (nl.getD (u % nl.length) ByteArray.empty) _ HBX.out
                          rw [find_pos hyd] at F1
                          have hk2 := posG_lt hyd
                          have HW2 := Lib.hid (HWS.out at_ _ _ HAB.out HAL.out)
                          generalize nl.getD (u % nl.length) ByteArray.empty = y at *
                          generalize posG (grO ns) y.data.toList = k2 at *
                          generalize u % nl.length = r at *
                          have hri : ((r : Nat) : Int) < (nl.length : Int) := by omega
                          have hr0 : (0 : Int) ≤ ((r : Nat) : Int) := by omega
                          have hnz : ((nl.length : Int)) ≠ 0 := by omega
                          clear hl0 hge hu hyi hym hyd
                          as_aux_lemma =>
                          go_wp2_with fail
                          refine F1.out.mono ?_
                          rintro e w8 ⟨rfl, rfl⟩
                          go_wp2_with fail
                          go_roundg (ns.length + 1 - (i + 1))
                          case measure => omega
                          case rel => exact ⟨i + 1, k2, all + ck, rfl, by go_num, by go_num, by rw [HL.out]; omega, by rw [HL.out], hk2, HW2.out, HBR2.out⟩
                    · have hli : ¬ ((i : Nat) : Int) ≤ (ns.length : Int) := by omega
                      have hle : ((all : Nat) : Int) ≤ ((M : Nat) : Int) := by omega
                      as_aux_lemma =>
                      go_wp2_with fail
                      refine (AW _ HBX.out).out.mono ?_
                      rintro e w8 ⟨rfl, hb⟩
                      have HBY := Lib.hid (HBX.out.trans (hb.mono HBX.out.size))
                      clear hb
                      go_wp2_with fail
                      go_ret
                      exact ⟨rfl, HBY.out⟩
      · have hci : (((cs.length : Nat) : Int) != ((ns.length : Nat) : Int)) = true := by rw [bne_iff_ne]; omega
        clear CR FA hcl
        as_aux_lemma =>
        go_wp2_with fail
        refine SM.out.mono ?_
        rintro e w1 ⟨rfl, rfl⟩
        go_wp2_with fail
        refine VA.out.mono ?_
        rintro e w2 ⟨rfl, hb⟩
        have B2 := Lib.hid hb
        clear hb
        go_wp2_with fail
        refine (AW _ B2.out).out.mono ?_
        rintro e w3 ⟨rfl, hb⟩
        have HB := Lib.hid (B2.out.trans (hb.mono B2.out.size))
        clear hb
        go_wp2_with fail
        go_ret
        exact ⟨rfl, HB.out⟩
    · have hvi : (((validF (grO ns) : Nat) : Int) != 0) = true := by simp; exact hv
      clear CR FA hv
      generalize validF (grO ns) = v at *
      as_aux_lemma =>
      go_wp2_with fail
      refine SM.out.mono ?_
      rintro e w1 ⟨rfl, rfl⟩
      go_wp2_with fail
      refine VA.out.mono ?_
      rintro e w2 ⟨rfl, hb⟩
      have B2 := Lib.hid hb
      clear hb
      go_wp2_with fail
      refine (AW _ B2.out).out.mono ?_
      rintro e w3 ⟨rfl, hb⟩
      have HB := Lib.hid (B2.out.trans (hb.mono B2.out.size))
      clear hb
      go_wp2_with fail
      go_ret
      exact ⟨rfl, HB.out⟩
  · have hs' : smallF ns 200 = false := by simpa using hs
    rw [hs'] at SM
    clear hs hs' VA CR FA
    as_aux_lemma =>
    go_wp2_with fail
    refine SM.out.mono ?_
    rintro e w1 ⟨rfl, rfl⟩
    go_wp2_with fail
    refine (AW _ B0.out).out.mono ?_
    rintro e w2 ⟨rfl, hb⟩
    have HB := Lib.hid hb
    clear hb
    go_wp2_with fail
    go_ret
    exact ⟨rfl, HB.out⟩
end Go.Proofs.YtfegmmafcopbpaaGreatDoor
