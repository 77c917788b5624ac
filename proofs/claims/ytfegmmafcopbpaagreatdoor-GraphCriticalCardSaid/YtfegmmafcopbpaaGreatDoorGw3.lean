/- The walk over check of package graph. -/
import Derived.Test.YtfegmmafcopbpaaGreatDoorGm2
import Derived.Test.YtfegmmafcopbpaaGreatDoorGw1
import Derived.Test.YtfegmmafcopbpaaGreatDoorGw2
import Derived.Carry
import Derived.Deep.RegionLaw
import Derived.Deep.AppendLies
namespace Go.Proofs.YtfegmmafcopbpaaGreatDoor
open Go.RowKit

theorem Tryz.info40 : (Tryz.prog.info? 40).map (fun i => (i.zero, i.size, i.bytes)) = some (some (.slice none 0 0), 1, 24) := by kernel_rfl

/-- the empty network -/
def NewNet (w : World) (nv : Value) (n : Nat) (v : Value) (w' : World) : Prop :=
  ∃ g bm bA bB c, v = .pointer (some ⟨g, 0, none⟩) ∧ w'.heap[g]? = some (.cells #[nv, .map (some bm), .slice (some ⟨bA, 0, none⟩) n n, .slice (some ⟨bB, 0, none⟩) n n] 69 (0, 0)) ∧
    w'.heap[bm]? = some (.map #[] c) ∧ w'.heap[bA]? = some (.cells (madeCells #[.slice none 0 0] n) 40 (0, 0)) ∧ w'.heap[bB]? = some (.cells (madeCells #[.slice none 0 0] n) 40 (0, 0)) ∧
    bm ≠ bA ∧ bm ≠ bB ∧ bA ≠ bB ∧ g ≠ bm ∧ g ≠ bA ∧ g ≠ bB ∧ w.heap.size ≤ g ∧ w.heap.size ≤ bm ∧ w.heap.size ≤ bA ∧ w.heap.size ≤ bB ∧ Below w.heap.size w w'

theorem newNet_of {O : Obj} {n : Nat} (hO : O = .cells (madeCells #[.slice none 0 0] n) 40 (0, 0)) (w : World) (o1 o2 o3 : Obj) (nv : Value) (a b c : Nat) (h : a ≤ 2 ∧ b ≤ 2 ∧ c ≤ 2 ∧ a ≠ b ∧ a ≠ c ∧ b ≠ c) (h1 : [o1, o2, o3][a]? = some (.map #[] 0)) (h2 : [o1, o2, o3][b]? = some O) (h3 : [o1, o2, o3][c]? = some O) :
    NewNet w nv n (.pointer (some ⟨w.heap.size + 3, 0, none⟩)) ((((w.alloc o1).alloc o2).alloc o3).alloc (.cells #[nv, .map (some (w.heap.size + a)), .slice (some ⟨w.heap.size + b, 0, none⟩) n n, .slice (some ⟨w.heap.size + c, 0, none⟩) n n] 69 (0, 0))).drew := by
  rw [hO] at h2 h3
  obtain ⟨a1, a2, a3, a4, a5, a6⟩ := alloc4 w o1 o2 o3 (.cells #[nv, .map (some (w.heap.size + a)), .slice (some ⟨w.heap.size + b, 0, none⟩) n n, .slice (some ⟨w.heap.size + c, 0, none⟩) n n] 69 (0, 0))
  have key : ∀ j o, j ≤ 2 → [o1, o2, o3][j]? = some o → ((((w.alloc o1).alloc o2).alloc o3).alloc (.cells #[nv, .map (some (w.heap.size + a)), .slice (some ⟨w.heap.size + b, 0, none⟩) n n, .slice (some ⟨w.heap.size + c, 0, none⟩) n n] 69 (0, 0))).heap[w.heap.size + j]? = some o := by
    intro j o hj ho
    match j, hj with
    | 0, _ => injection ho with ho; rw [← ho]; exact a1
    | 1, _ => injection ho with ho; rw [← ho]; exact a2
    | 2, _ => injection ho with ho; rw [← ho]; exact a3
  exact ⟨_, _, _, _, 0, rfl, a4, key a _ h.1 h1, key b _ h.2.1 h2, key c _ h.2.2.1 h3, by omega, by omega, by omega, by omega, by omega, by omega, by omega, by omega, by omega, by omega, a6.drew⟩

def CheckPost (ns : List Nd) (nv : Value) (w : World) (e : Ending) (w' : World) : Prop :=
  ∃ p, e = .returned (.tuple #[p, .int .i64 (formedF (grO ns) : Nat)]) ∧ Below w.heap.size w w' ∧ (formedF (grO ns) = 0 → ∃ g, p = .pointer (some ⟨g, 0, none⟩) ∧ NetAt w' g nv ns) ∧ (formedF (grO ns) ≠ 0 → p = .pointer none)

def IdsRel (w1 : World) (bm : Nat) (G : Gr) (f : Nat) (t33 : Value) (wr : World) : Prop :=
  ∃ i : Nat, t33 = .int .i64 (i : Nat) ∧ i ≤ G.length ∧ f = G.length - i ∧ idsF ((idsG G).take i) (G.drop i) = idsF [] G ∧ Kp w1.heap.size (· = bm) w1 wr ∧ MapF .string Value.string wr bm (idxTo G i)

def NeedOut (w2 : World) (n bA bB : Nat) (G : Gr) (f : Nat) (t67 : Value) (wr : World) : Prop :=
  ∃ (i : Nat) (W : Bool → Nat → Value), t67 = .int .i64 (i : Nat) ∧ i ≤ n ∧ f = n - i ∧ needsF (idsG G) (G.drop i) = needsF (idsG G) G ∧
    Kp w2.heap.size (fun k => k = bA ∨ k = bB) w2 wr ∧ wr.rowIs bA 40 n (W false) ∧ wr.rowIs bB 40 n (W true) ∧ Fam wr w2.heap.size n W (LL G i 0)

def NeedIn (w2 : World) (n bA bB bs i : Nat) (G : Gr) (f : Nat) (t76 : Value) (wr : World) : Prop :=
  ∃ (j : Nat) (W : Bool → Nat → Value), t76 = .int .i64 (j : Nat) ∧ j ≤ (needA G i).length ∧ f = (needA G i).length - j ∧ needF (idsG G) ((needA G i).take j) ((needA G i).drop j) = needF (idsG G) [] (needA G i) ∧
    (∀ b ∈ (needA G i).take j, b ∈ idsG G) ∧ ((needA G i).take j).Nodup ∧
    Kp w2.heap.size (fun k => k = bA ∨ k = bB) w2 wr ∧ wr.rowIs bA 40 n (W false) ∧ wr.rowIs bB 40 n (W true) ∧ Fam wr w2.heap.size n W (LL G i j) ∧
    MapF .string Value.string wr bs (seenF ((needA G i).take j)) ∧ ∀ c r, r < n → (W c r).ownBlock ≠ some bs

def NeedDone (w2 : World) (n bA bB i : Nat) (G : Gr) (wr : World) : Prop :=
  ∃ W : Bool → Nat → Value, Kp w2.heap.size (fun k => k = bA ∨ k = bB) w2 wr ∧ wr.rowIs bA 40 n (W false) ∧ wr.rowIs bB 40 n (W true) ∧ Fam wr w2.heap.size n W (LL G (i + 1) 0) ∧ needF (idsG G) [] (needA G i) = 0

theorem needsF_step {G : Gr} {i : Nat} (hi : i < G.length) (all : List Bs) : needsF all (G.drop i) = if needF all [] (needA G i) = 0 then needsF all (G.drop (i + 1)) else needF all [] (needA G i) := by
  have e : needA G i = G[i].2 := by unfold needA; rw [List.getD_eq_getElem?_getD, List.getElem?_eq_getElem hi]; rfl
  rw [List.drop_eq_getElem_cons hi, needsF, e]
theorem needF_step {l : List Bs} {j : Nat} (hj : j < l.length) (all seen : List Bs) : needF all seen (l.drop j) = if l.getD j [] ∉ all then 8 else if l.getD j [] ∈ seen then 7 else needF all (seen ++ [l.getD j []]) (l.drop (j + 1)) := by
  have e : l.getD j [] = l[j] := by rw [List.getD_eq_getElem?_getD, List.getElem?_eq_getElem hj]; rfl
  rw [List.drop_eq_getElem_cons hj, needF, e]
theorem take_getD {l : List Bs} {j : Nat} (hj : j < l.length) : l.take (j + 1) = l.take j ++ [l.getD j []] := by
  rw [List.take_add_one, List.getD, List.getElem?_eq_getElem hj]; rfl

theorem idsF_step {G : Gr} {i : Nat} (hi : i < G.length) (seen : List Bs) : idsF seen (G.drop i) = if partsF (idA G i) ≠ 0 then 1 else if idA G i ∈ seen then 7 else idsF (seen ++ [idA G i]) (G.drop (i + 1)) := by
  have e : idA G i = G[i].1 := by unfold idA; rw [List.getD_eq_getElem?_getD, List.getElem?_eq_getElem hi]; rfl
  rw [List.drop_eq_getElem_cons hi, idsF, e]
theorem take_ids {G : Gr} {i : Nat} (hi : i < G.length) : (idsG G).take (i + 1) = (idsG G).take i ++ [idA G i] := by
  have hi' : i < (idsG G).length := by rw [ids_len]; exact hi
  rw [List.take_add_one, List.getElem?_eq_getElem hi', idA_ids hi']; rfl

set_option maxRecDepth 100000 in
set_option maxHeartbeats 12800000 in
theorem check_any (nv : Value) (ns : List Nd) (m : Int) (hlen : 40 * ns.length ≤ 281474976710656) (w : World) (hN : NdAt w nv ns) (hm : w.cell? ⟨0, 0, none⟩ = some (.int .i64 m)) (hml : 0 < w.heap.size) :
    Calls Tryz.prog 34 #[nv] w (CheckPost ns nv w) := by
  obtain ⟨nao, ncap, rfl⟩ := hN.sl.form
  have HN := Lib.hid hN
  have HM := Lib.hid hm
  obtain ⟨i3, hi3⟩ := Tryz.info3'
  have HI := Lib.hid hi3
  have hmk := run_make_row' (P := Tryz.prog) 67 40 (.slice none 0 0) 24 Tryz.underlying67 Tryz.info40 rfl .i64 .i64 ns.length (by omega) (by omega)
  have hmm : ∀ W : World, (Instr.makeMap 66 none).run Tryz.prog W = .ok (.map (some W.heap.size)) (W.alloc (.map #[] 0)) := fun W => run_makeMap _ W
  have hmm2 : ∀ W : World, (Instr.makeMap 74 none).run Tryz.prog W = .ok (.map (some W.heap.size)) (W.alloc (.map #[] 0)) := fun W => run_makeMap _ W
  obtain ⟨O, hO⟩ : ∃ O, O = Obj.cells (madeCells #[.slice none 0 0] ns.length) 40 (0, 0) := ⟨_, rfl⟩
  have hmk2 : ∀ W : World, (Instr.makeSlice 67 (.int .i64 (ns.length : Int)) (.int .i64 (ns.length : Int))).run Tryz.prog W = .ok (.slice (some ⟨W.heap.size, 0, none⟩) ns.length ns.length) (W.alloc O) := fun W => by rw [hO]; exact hmk W
  have HO := Lib.hid hO
  clear hN hm hi3 hO hmk
  go_enter Tryz.func34, Tryz.ntmps34
  go_upto_region 1 with fail
  go_cut [4] (fun s4 wx => NewNet w (.slice nao ns.length ncap) ns.length s4 wx)
  case first =>
    go_region
    all_goals go_wp2_with fail
    all_goals go_meet
    · exact newNet_of HO.out w _ _ _ _ 0 1 2 (by decide) rfl rfl rfl
    · exact newNet_of HO.out w _ _ _ _ 0 2 1 (by decide) rfl rfl rfl
    · exact newNet_of HO.out w _ _ _ _ 1 0 2 (by decide) rfl rfl rfl
    · exact newNet_of HO.out w _ _ _ _ 2 0 1 (by decide) rfl rfl rfl
    · exact newNet_of HO.out w _ _ _ _ 1 2 0 (by decide) rfl rfl rfl
    · exact newNet_of HO.out w _ _ _ _ 2 1 0 (by decide) rfl rfl rfl
  case rest =>
    clear hmk2 HO hmm
    obtain ⟨g, bm, bA, bB, c, rfl, hg, hbm, hbA, hbB, d1, d2, d3, d4, d5, d6, e1, e2, e3, e4, hb1⟩ := hcut
    generalize wc = w1 at *
    have HMX : Hid (∀ W, Below w.heap.size w W → W.cell? ⟨0, 0, none⟩ = some (.int .i64 m)) := fun W hW => (hW.cell (p := ⟨0, 0, none⟩) hml).trans HM.out
    by_cases hL : 1024 < ns.length
    · have hLi : (1024 : Int) < (ns.length : Int) := by omega
      have HF : Hid (formedF (grO ns) = 15) := by unfold Hid formedF; rw [if_pos (by rw [grO_len]; exact hL)]
      go_wp2_with fail
      go_ret2
      exact ⟨_, by rw [HF.out]; rfl, hb1, (by rw [HF.out]; intro h; cases h), fun _ => rfl⟩
    · have HF : Hid (formedF (grO ns) = if idsF [] (grO ns) = 0 then needsF (idsG (grO ns)) (grO ns) else idsF [] (grO ns)) := by unfold Hid formedF; rw [if_neg (by rw [grO_len]; exact hL)]
      have hgl := (Array.getElem?_eq_some_iff.1 hg).1
      have hml2 := (Array.getElem?_eq_some_iff.1 hbm).1
      have HG := Lib.hid hg
      have HBA := Lib.hid hbA
      have HBB := Lib.hid hbB
      have HB1 := Lib.hid hb1
      have HKB : Hid (∀ W, Kp w1.heap.size (· = bm) w1 W → Below w.heap.size w W) := fun W hW => hb1.trans (hW.below hb1.size fun k hk e => by omega)
      have HMP : Hid (MapF .string Value.string w1 bm (idxTo (grO ns) 0)) := MapF.congr ⟨#[], c, hbm, (by intro x hx; cases hx), List.Pairwise.nil, fun a => ⟨(by intro v h; cases h), fun _ e he => by cases he⟩⟩ (idxTo_zero _)
      clear hg hbm hbA hbB hb1
      go_upto_block 0 with fail
      go_cut [33] (fun s33 wx => Kp w1.heap.size (· = bm) w1 wx ∧ MapF .string Value.string wx bm (idxTo (grO ns) ns.length) ∧ idsF [] (grO ns) = 0)
      case first =>
        go_wp2_with fail
        go_loopg [33] ns.length (IdsRel w1 bm (grO ns))
        case atStart => exact ⟨0, rfl, Nat.zero_le _, by rw [grO_len]; rfl, rfl, Kp.refl _ _ _, HMP.out⟩
        case round =>
          obtain ⟨i, rfl, hi, rfl, hids, hkp, hmap⟩ := hrel
          have HIDS := Lib.hid hids
          have HKP := Lib.hid hkp
          have HMAP := Lib.hid hmap
          have HBR := Lib.hid (HKB.out wr hkp)
          rw [grO_len] at hi
          clear hids hkp hmap
          by_cases hilt : i < ns.length
          · have hii : (i : Int) < (ns.length : Int) := by omega
            obtain ⟨nb, noff, rfl, hnb, hc0, hc1, hst⟩ := (HN.out.below HBR.out).at2 hilt
            have HIX := Lib.hid (grO_id ns hilt)
            have HSTEP := Lib.hid (idsF_step (G := grO ns) (by rw [grO_len]; exact hilt) ((idsG (grO ns)).take i))
            obtain ⟨xao, xcap, hxe⟩ := hst.form
            rw [hxe] at hc1
            clear hst hxe
            have PA := fun W hW => Lib.hid (parts_any (ns.getD i default).id m W (HMX.out W hW))
            generalize (ns.getD i default).needs.length = xl at *
            generalize (ns.getD i default).id = x at *
            go_wp2_with fail
            refine (PA _ (HBR.out.alloc HBR.out.size _)).out.mono ?_
            rintro e w5 ⟨pv, pss, rfl, hb5, _, _⟩
            have hcp0 : w5.cell? ⟨wr.heap.size, 0, none⟩ = some (.string x) := (hb5.cell (p := ⟨wr.heap.size, 0, none⟩) (by simp)).trans (by rw [cell_of_blk (hp_new rfl)]; rfl)
            have hwr5 : Below wr.heap.size wr w5 := ((Below.refl _ wr).alloc (Nat.le_refl _) _).trans (hb5.mono (by simp))
            have HK5 := Lib.hid (HKP.out.trans ((Kp.of_below (X := (· = bm)) hwr5).mono HKP.out.size (fun k hk h => h)))
            have HM5 := Lib.hid (HMAP.out.below hwr5)
            have hgc : w5.cell? ⟨g, 1, none⟩ = some (.map (some bm)) := by
              rw [cell_of_blk (show w5.heap[g]? = _ from (HK5.out.block g hgl d4).trans HG.out)]; rfl
            clear hb5 hwr5 PA
            have HP := Lib.hid HSTEP.out
            rw [HIX.out, HIDS.out] at HP
            clear HSTEP
            have HPP : Hid (partsF x.data.toList ≠ 0 → idsF [] (grO ns) = 1) := fun h => by rw [HP.out, if_pos h]
            have HPN : Hid (partsF x.data.toList = 0 → idsF [] (grO ns) = if x.data.toList ∈ (idsG (grO ns)).take i then 7 else idsF ((idsG (grO ns)).take i ++ [x.data.toList]) ((grO ns).drop (i + 1))) := fun h => by rw [HP.out, if_neg (by rw [h]; simp)]
            clear HP
            generalize partsF x.data.toList = pf at *
            by_cases hp : pf = 0
            · subst hp
              have HP7 := Lib.hid (HPN.out rfl)
              clear HPN HPP
              by_cases hmem : x.data.toList ∈ (idsG (grO ns)).take i
              · have HF7 : Hid (formedF (grO ns) = 7) := by
                  unfold Hid; rw [HF.out, HP7.out, if_pos hmem, if_neg (by decide)]
                have hlk : idxTo (grO ns) i x = some (intV (posG (grO ns) x.data.toList)) := by unfold idxTo; rw [if_pos hmem]
                have LK := fun nn => MapF.lookup (P := Tryz.prog) (HM5.out.of_block (w1 := w5.drewN nn) rfl) Tryz.underlying66 Tryz.underlying9 (z := .int .i64 0) (by kernel_rfl) (a := x) trivial true
                rw [hlk] at LK
                simp only [Option.getD_some, Option.isSome_some, if_true] at LK
                clear hlk hmem
                generalize posG (grO ns) x.data.toList = px at *
                go_upto_region 10 with fail
                go_quiet (fail)
                go_wp2_with fail
                go_ret2
                exact ⟨_, by rw [HF7.out]; rfl, HKB.out _ (HK5.out.drewN _), (by rw [HF7.out]; intro h; cases h), fun _ => rfl⟩
              · have hlk : idxTo (grO ns) i x = none := by unfold idxTo; rw [if_neg hmem]
                have LK := fun nn => MapF.lookup (P := Tryz.prog) (HM5.out.of_block (w1 := w5.drewN nn) rfl) Tryz.underlying66 Tryz.underlying9 (z := .int .i64 0) (by kernel_rfl) (a := x) trivial true
                rw [hlk] at LK
                simp only [Option.getD_none, Option.isSome_none, if_true] at LK
                have HID2 : Hid (idsF ((idsG (grO ns)).take (i + 1)) ((grO ns).drop (i + 1)) = idsF [] (grO ns)) := by
                  unfold Hid; rw [take_ids (by rw [grO_len]; exact hilt), HIX.out, HP7.out, if_neg hmem]
                have HNW := Lib.hid (idxTo_new (G := grO ns) (i := i) (by rw [grO_len]; exact hilt) (s := x) HIX.out.symm (by rw [HIX.out]; exact hmem))
                clear hlk hmem
                go_upto_region 10 with fail
                go_quiet (fail)
                clear LK
                rename_i nq
                have hcp6 : (w5.drewN nq).cell? ⟨wr.heap.size, 0, none⟩ = some (.string x) := hcp0
                have hgc6 : (w5.drewN nq).cell? ⟨g, 1, none⟩ = some (.map (some bm)) := hgc
                have HK6 := Lib.hid (HK5.out.drewN nq)
                have HM6 : Hid (MapF .string Value.string (w5.drewN nq) bm (idxTo (grO ns) i)) := HM5.out.of_block rfl
                clear hcp0 hgc
                generalize w5.drewN nq = w6 at *
                go_upto_region 13 with fail
                go_still_tail 7, (by kernel_rfl)
                change wpList _ _ _ _ _ (World.drew _)
                as_aux_lemma =>
                go_wp2_with (refine wpList_updateF rfl _ _ _ rfl (MapF.of_block HM6.out rfl) rfl Tryz.underlying66 Tryz.underlying9 x rfl trivial (fun b hb => by injection hb) (intV i) rfl (idxTo (grO ns) (i + 1)) HNW.out.1 HNW.out.2 ?_)
                intro o' w7 hW hM7
                have HM7 := Lib.hid hM7
                have HK7 := Lib.hid (Kp.wrote HK6.out.drew hW (.inr rfl))
                clear hW hM7
                go_wp2_with fail
                go_roundg (ns.length - (i + 1))
                case measure => have := grO_len ns; omega
                case rel => exact ⟨i + 1, by go_num, by rw [grO_len]; omega, by rw [grO_len], HID2.out, HK7.out, HM7.out⟩
            · have HF1 : Hid (formedF (grO ns) = 1) := by
                unfold Hid; rw [HF.out, HPP.out hp, if_neg (by decide)]
              have hpi : ((pf : Int) != 0) = true := by simp; exact hp
              clear HPN HPP
              go_wp2_with fail
              go_ret2
              exact ⟨_, by rw [HF1.out]; rfl, HKB.out _ HK5.out, (by rw [HF1.out]; intro h; cases h), fun _ => rfl⟩
          · have hie : i = ns.length := by omega
            subst hie
            have HI0 : Hid (idsF [] (grO ns) = 0) := by
              unfold Hid
              rw [← HIDS.out, List.drop_of_length_le (by rw [grO_len]; exact Nat.le_refl _)]
              rfl
            go_wp2_with fail
            go_meet
            exact ⟨HKP.out, HMAP.out, HI0.out⟩
      case rest =>
        obtain ⟨hk2, hm2, hid0⟩ := hcut
        generalize wc = w2 at *
        have HK2 := Lib.hid hk2
        have HMAP := Lib.hid hm2
        have hb2 := HKB.out w2 hk2
        have HB2 := Lib.hid hb2
        have hs12 : w1.heap.size ≤ w2.heap.size := hk2.size
        have hbAl : bA < w1.heap.size := (Array.getElem?_eq_some_iff.1 HBA.out).1
        have hbBl : bB < w1.heap.size := (Array.getElem?_eq_some_iff.1 HBB.out).1
        have HF2 : Hid (formedF (grO ns) = needsF (idsG (grO ns)) (grO ns)) := by unfold Hid; rw [HF.out, if_pos hid0]
        have HG2 : Hid (w2.heap[g]? = some (.cells #[.slice nao ns.length ncap, .map (some bm), .slice (some ⟨bA, 0, none⟩) ns.length ns.length, .slice (some ⟨bB, 0, none⟩) ns.length ns.length] 69 (0, 0))) := (hk2.block g hgl d4).trans HG.out
        have HRA : Hid (w2.rowIs bA 40 ns.length (fun _ => .slice none 0 0)) := ⟨_, (hk2.block bA hbAl (fun e => d1 e.symm)).trans HBA.out, size_madeCells _ _, fun i hi => by simp [madeCells, hi, Nat.mod_one]⟩
        have HRB : Hid (w2.rowIs bB 40 ns.length (fun _ => .slice none 0 0)) := ⟨_, (hk2.block bB hbBl (fun e => d2 e.symm)).trans HBB.out, size_madeCells _ _, fun i hi => by simp [madeCells, hi, Nat.mod_one]⟩
        have HFAM : Hid (Fam w2 w2.heap.size ns.length (fun _ _ => .slice none 0 0) (LL (grO ns) 0 0)) := ⟨fun c r _ => by rw [LL_zero]; exact IRow.nil _ _, fun c r c' r' _ _ _ k hk => by cases hk⟩
        have HKW : Hid (∀ W, Kp w2.heap.size (fun k => k = bA ∨ k = bB) w2 W → Below w.heap.size w W ∧ W.cell? ⟨g, 1, none⟩ = some (.map (some bm)) ∧ W.cell? ⟨g, 2, none⟩ = some (.slice (some ⟨bA, 0, none⟩) ns.length ns.length) ∧ W.cell? ⟨g, 3, none⟩ = some (.slice (some ⟨bB, 0, none⟩) ns.length ns.length) ∧ MapF .string Value.string W bm (idxTo (grO ns) ns.length)) := fun W hW => by
          have hgb : W.heap[g]? = _ := (hW.block g (by omega) (by rintro (e | e); exact d5 e; exact d6 e)).trans HG2.out
          refine ⟨hb2.trans (hW.below hb2.size fun k hk e => by rcases e with e | e <;> omega), ?_, ?_, ?_, HMAP.out.of_block (hW.block bm (by omega) (by rintro (e | e); exact d1 e; exact d2 e))⟩
          · rw [cell_of_blk hgb]; rfl
          · rw [cell_of_blk hgb]; rfl
          · rw [cell_of_blk hgb]; rfl
        clear hk2 hm2 hb2 hid0 HF HG HBA HBB HKB HMP
        go_upto_block 2 with fail
        go_cut [67] (fun s67 wx => NeedOut w2 ns.length bA bB (grO ns) 0 (.int .i64 (ns.length : Nat)) wx)
        case first =>
          go_wp2_with fail
          go_loopg [67] ns.length (NeedOut w2 ns.length bA bB (grO ns))
          case atStart => exact ⟨0, _, rfl, Nat.zero_le _, rfl, rfl, Kp.refl _ _ _, HRA.out, HRB.out, HFAM.out⟩
          case round =>
            obtain ⟨i, W, rfl, hi, rfl, hnd, hkp, hra, hrb, hfam⟩ := hrel
            have HND := Lib.hid hnd
            have HKP := Lib.hid hkp
            have HA := Lib.hid hra
            have HB := Lib.hid hrb
            have HFM := Lib.hid hfam
            have HBR := Lib.hid (HKW.out wr hkp).1
            clear hnd hkp hra hrb hfam
            by_cases hilt : i < ns.length
            · have hii : (i : Int) < (ns.length : Int) := by omega
              obtain ⟨nb, noff, rfl, hnb, hc0, hc1, hst⟩ := (HN.out.below HBR.out).at2 hilt
              have HIX := Lib.hid (grO_need ns hilt)
              have HSTEP := Lib.hid (needsF_step (G := grO ns) (by rw [grO_len]; exact hilt) (idsG (grO ns)))
              have HST := Lib.hid ((HN.out.st (ns.getD i default) (by rw [List.getD, List.getElem?_eq_getElem hilt]; exact List.getElem_mem hilt)))
              obtain ⟨xao, xcap, hxe⟩ := hst.form
              have HXE := Lib.hid hxe
              rw [hxe] at hc1
              clear hst hxe
              generalize (ns.getD i default).needs = nl at *
              generalize (ns.getD i default).nv = xv at *
              generalize (ns.getD i default).id = x at *
              have hxv := HXE.out
              subst hxv
              clear HXE
              go_upto_block 3 with fail
              go_cut [76] (fun s76 wx => NeedDone w2 ns.length bA bB i (grO ns) wx)
              case first =>
                have HOLD : Hid (∀ c r, r < ns.length → ∀ k, (W c r).ownBlock = some k → k < wr.heap.size) := fun c r hr k hk => ((HFM.out.row c r hr).lt k hk).2
                go_upto_region 19 with fail
                have HK3 := Lib.hid ((HKP.out.alloc HKP.out.size (.cells #[.string x, .slice xao nl.length xcap] 48)).alloc (Nat.le_trans HKP.out.size (by simp)) (.map #[] 0))
                have HA3 := Lib.hid ((HA.out.alloc (.cells #[.string x, .slice xao nl.length xcap] 48)).alloc (.map #[] 0))
                have HB3 := Lib.hid ((HB.out.alloc (.cells #[.string x, .slice xao nl.length xcap] 48)).alloc (.map #[] 0))
                have HFM3 := Lib.hid ((HFM.out.alloc (.cells #[.string x, .slice xao nl.length xcap] 48)).alloc (.map #[] 0))
                have HSN3 : Hid (MapF .string Value.string ((wr.alloc (.cells #[.string x, .slice xao nl.length xcap] 48)).alloc (.map #[] 0)) (wr.heap.size + 1) (seenF [])) := (mapF_new (by simp) 0).congr fun s => by unfold seenF; simp
                have hcp : ((wr.alloc (.cells #[.string x, .slice xao nl.length xcap] 48)).alloc (.map #[] 0)).cell? ⟨wr.heap.size, 1, none⟩ = some (.slice xao nl.length xcap) := by
                  rw [cell_of_blk ((hp_old (by simp)).trans (hp_new rfl))]; rfl
                have hws : w2.heap.size ≤ wr.heap.size := HKP.out.size
                have HAV : Hid (∀ c r, r < ns.length → (W c r).ownBlock ≠ some (wr.heap.size + 1)) := fun c r hr e => by have := HOLD.out c r hr _ e; omega
                have hsz3 : ((wr.alloc (.cells #[.string x, .slice xao nl.length xcap] 48)).alloc (.map #[] 0)).heap.size = wr.heap.size + 2 := by simp
                clear hmm2
                generalize (wr.alloc (.cells #[.string x, .slice xao nl.length xcap] 48)).alloc (.map #[] 0) = w3 at *
                generalize hbs : wr.heap.size + 1 = bs at *
                generalize hcn : wr.heap.size = cn at *
                clear HA HB HFM HKP HBR hc0 hc1
                have HNL : Hid ((needA (grO ns) i).length = nl.length) := by unfold Hid; rw [HIX.out, List.length_map]
                go_wp2_with fail
                go_loopg [76] nl.length (NeedIn w2 ns.length bA bB bs i (grO ns))
                case atStart => exact ⟨0, W, rfl, Nat.zero_le _, by rw [HNL.out]; rfl, rfl, by simp, by simp, HK3.out, HA3.out, HB3.out, HFM3.out, HSN3.out, HAV.out⟩
                case round =>
                  clear HK3 HA3 HB3 HFM3 HSN3 HAV
                  obtain ⟨j, V, rfl, hj, hjf, hnf, hsub, hnod, hkp, hra, hrb, hfam, hseen, hav⟩ := hrel
                  rw [HNL.out] at hj hjf
                  subst hjf
                  have HNF := Lib.hid hnf
                  have HSUB := Lib.hid hsub
                  have HNOD := Lib.hid hnod
                  have HKP := Lib.hid hkp
                  have HA := Lib.hid hra
                  have HB := Lib.hid hrb
                  have HFM := Lib.hid hfam
                  have HSEEN := Lib.hid hseen
                  have HAV := Lib.hid hav
                  obtain ⟨hbw, hg1, hg2, hg3, hmap⟩ := HKW.out wr hkp
                  have HBW := Lib.hid hbw
                  have HMP := Lib.hid hmap
                  clear hnf hsub hnod hkp hra hrb hfam hseen hav hbw hmap
                  by_cases hjlt : j < nl.length
                  · have hjj : (j : Int) < (nl.length : Int) := by omega
                    obtain ⟨yb, yoff, rfl, hyb, hyc⟩ := (HST.out.below HBW.out).at_ hjlt
                    have HY : Hid ((needA (grO ns) i).getD j [] = (nl.getD j ByteArray.empty).data.toList) := by
                      unfold Hid; rw [HIX.out, List.getD, List.getD, List.getElem?_map, List.getElem?_eq_getElem hjlt]; rfl
                    generalize nl.getD j ByteArray.empty = y at *
                    have HNS : Hid (needF (idsG (grO ns)) [] (needA (grO ns) i) = if y.data.toList ∉ idsG (grO ns) then 8 else if y.data.toList ∈ (needA (grO ns) i).take j then 7 else needF (idsG (grO ns)) ((needA (grO ns) i).take j ++ [y.data.toList]) ((needA (grO ns) i).drop (j + 1))) := by
                      unfold Hid; rw [← HNF.out, needF_step (by rw [HNL.out]; exact hjlt), HY.out]
                    have HFE : Hid (∀ e, e ≠ 0 → needF (idsG (grO ns)) [] (needA (grO ns) i) = e → formedF (grO ns) = e) := fun e he h => by
                      rw [HF2.out, ← HND.out, HSTEP.out, h, if_neg he]
                    have htk : (idsG (grO ns)).take ns.length = idsG (grO ns) := List.take_of_length_le (by rw [ids_len, grO_len]; exact Nat.le_refl _)
                    by_cases hin : y.data.toList ∈ idsG (grO ns)
                    · have hlk : idxTo (grO ns) ns.length y = some (intV (posG (grO ns) y.data.toList)) := by unfold idxTo; rw [htk, if_pos hin]
                      have LK := MapF.lookup (P := Tryz.prog) HMP.out Tryz.underlying66 Tryz.underlying9 (z := .int .i64 0) (by kernel_rfl) (a := y) trivial true
                      rw [hlk] at LK
                      simp only [Option.getD_some, Option.isSome_some, if_true] at LK
                      have hpk : posG (grO ns) y.data.toList < ns.length := by have := posG_lt hin; rwa [grO_len] at this
                      clear hlk htk
                      by_cases hsn : y.data.toList ∈ (needA (grO ns) i).take j
                      · have HF7 : Hid (formedF (grO ns) = 7) := HFE.out 7 (by decide) (by rw [HNS.out, if_neg (by simp [hin]), if_pos hsn])
                        have hlk2 : seenF ((needA (grO ns) i).take j) y = some (.bool true) := by unfold seenF; rw [if_pos hsn]
                        have LK2 := MapF.lookup (P := Tryz.prog) HSEEN.out Tryz.underlying74 Tryz.underlying9 (z := .bool false) (by kernel_rfl) (a := y) trivial false
                        rw [hlk2] at LK2
                        simp only [Option.getD_some, if_false, Bool.false_eq_true] at LK2
                        clear hlk2 hsn hin
                        generalize posG (grO ns) y.data.toList = k at *
                        as_aux_lemma =>
                        go_wp2_with fail
                        go_ret2
                        exact ⟨_, by rw [HF7.out]; rfl, HBW.out, (by rw [HF7.out]; intro h; cases h), fun _ => rfl⟩
                      · have hlk2 : seenF ((needA (grO ns) i).take j) y = none := by unfold seenF; rw [if_neg hsn]
                        have LK2 := MapF.lookup (P := Tryz.prog) HSEEN.out Tryz.underlying74 Tryz.underlying9 (z := .bool false) (by kernel_rfl) (a := y) trivial false
                        rw [hlk2] at LK2
                        simp only [Option.getD_none, if_false, Bool.false_eq_true] at LK2
                        have HN2 : Hid (needF (idsG (grO ns)) ((needA (grO ns) i).take j ++ [y.data.toList]) ((needA (grO ns) i).drop (j + 1)) = needF (idsG (grO ns)) [] (needA (grO ns) i)) := by
                          unfold Hid; rw [HNS.out, if_neg (by simp [hin]), if_neg hsn]
                        have HTK : Hid ((needA (grO ns) i).take (j + 1) = (needA (grO ns) i).take j ++ [y.data.toList]) := by
                          unfold Hid; rw [take_getD (by rw [HNL.out]; exact hjlt), HY.out]
                        have HSW := Lib.hid (seenF_new ((needA (grO ns) i).take j) (s := y) rfl)
                        have HIN := Lib.hid hin
                        have HSNN := Lib.hid hsn
                        clear hlk2 hsn hin
                        go_upto_region 28 with (refine wpList_updateF rfl _ _ _ rfl HSEEN.out rfl Tryz.underlying74 Tryz.underlying9 y rfl trivial (fun b hb => by injection hb) (.bool true) rfl (seenF ((needA (grO ns) i).take j ++ [y.data.toList])) HSW.out.1 HSW.out.2 ?_; intro o' w4 hW4 hM4; have HW4 := Lib.hid hW4; have HM4 := Lib.hid hM4; clear hW4 hM4)
                        have hbsl : bs < wr.heap.size := HSEEN.out.lt
                        have HK4 := Lib.hid (HKP.out.wrote HW4.out (.inl (by omega)))
                        have HA4 : Hid (w4.rowIs bA 40 ns.length (V false)) := HA.out.of_block (HW4.out.block _ (by omega))
                        have HB4 : Hid (w4.rowIs bB 40 ns.length (V true)) := HB.out.of_block (HW4.out.block _ (by omega))
                        have HFM4 : Hid (Fam w4 w2.heap.size ns.length V (LL (grO ns) i j)) := HFM.out.kp (Kp.wrote (Kp.refl wr.heap.size (· = bs) wr) HW4.out (.inr rfl)) fun c r hr k hk => ⟨((HFM.out.row c r hr).lt k hk).2, fun e => HAV.out c r hr (e ▸ hk)⟩
                        have hbs4 : bs < w4.heap.size := HM4.out.lt
                        have HJ : Hid (j + 1 ≤ ns.length) := by
                          have hnd : ((needA (grO ns) i).take (j + 1)).Nodup := by
                            rw [HTK.out, List.nodup_append]
                            exact ⟨HNOD.out, by simp, fun a ha b hb => by simp at hb; subst hb; rintro rfl; exact HSNN.out ha⟩
                          have := nodup_le (idsG (grO ns)) _ hnd (fun b hb => by
                            rw [HTK.out] at hb
                            rcases List.mem_append.1 hb with hb | hb
                            · exact HSUB.out b hb
                            · simp at hb; subst hb; exact HIN.out)
                          rw [ids_len, grO_len, List.length_take, HNL.out] at this
                          show j + 1 ≤ ns.length
                          omega
                        have hj1 := HJ.out
                        clear hg1 hg2 hg3 LK LK2 hyc HW4 HSW HB HA HFM HSEEN HKP HBW HMP HNS HFE HNF HJ HST hcp hyb
                        generalize hkd : posG (grO ns) y.data.toList = k at *
                        have HKD := Lib.hid hkd
                        clear hkd
                        have hki : ((k : Nat) : Int) < (ns.length : Int) := by omega
                        obtain ⟨_, _, hg2, hg3, _⟩ := HKW.out w4 HK4.out
                        have hrl := HA4.out.cell hilt
                        have hfr := HA4.out.frozen i
                        have hlr : (LL (grO ns) i j false i).length = j := by
                          show (if i < i then ab (grO ns) i else if i = i then (ab (grO ns) i).take j else []).length = j
                          rw [if_neg (Nat.lt_irrefl i), if_pos rfl, List.length_take]
                          unfold ab
                          rw [List.length_map, HNL.out]
                          omega
                        obtain ⟨va, vcap, hvf⟩ := (HFM4.out.row false i hilt).form
                        rw [hlr] at hvf
                        have HVF := Lib.hid hvf
                        rw [hvf] at hrl
                        have HS4 : Hid (∀ W : World, Kp w2.heap.size (fun k => k = bA ∨ k = bB) w4 W → W.cell? ⟨g, 2, none⟩ = some (.slice (some ⟨bA, 0, none⟩) ns.length ns.length)) := fun W hW => (HKW.out W (HK4.out.trans hW)).2.2.1
                        have HO4 : Hid (∀ W : World, W.heap = (w4.alloc (.cells #[intV k] 3 (0, 0))).heap → W.ownsRow w2.heap.size 3 1 (.slice va j vcap) j ((LL (grO ns) i j false i).map intV)) := fun W hW => by
                          have := HFM4.out.row false i hilt
                          unfold IRow at this
                          rw [hlr, hvf] at this
                          have h2 := World.ownsRow.alloc this (.cells #[intV k] 3 (0, 0))
                          unfold World.ownsRow at h2 ⊢
                          rw [hW]
                          exact h2
                        have HG5 : Hid (∀ W w5 : World, W.heap = (w4.alloc (.cells #[intV k] 3 (0, 0))).heap → W.grownBy w5 (Value.slice va j vcap).ownBlock → w5.cell? ⟨g, 2, none⟩ = some (.slice (some ⟨bA, 0, none⟩) ns.length ns.length) ∧ w5.cell? ⟨bA, i, none⟩ = some (.slice va j vcap) ∧ w5.frozen? ⟨bA, i, none⟩ = false) := fun W w5 hW hg => by
                          have hbk : ∀ b, b < w2.heap.size → b < w4.heap.size → w5.heap[b]? = w4.heap[b]? := fun b hb hb4 => (hg.block b (by rw [hW]; simp; omega) (fun e => by
                            rw [← hvf] at e
                            have := ((HFM4.out.row false i hilt).lt b e.symm).1
                            omega)).trans (by rw [hW]; exact hp_old hb4)
                          have hw24 := HK4.out.size
                          exact ⟨(World.cell?_of_block (a := ⟨g, 2, none⟩) (hbk g (by omega) (by omega))).trans hg2, (World.cell?_of_block (a := ⟨bA, i, none⟩) (hbk bA (by omega) (by omega))).trans hrl, (World.frozen?_of_block (a := ⟨bA, i, none⟩) (hbk bA (by omega) (by omega))).trans hfr⟩
                        have HLR := Lib.hid hlr
                        clear hvf hlr
                        simp only [Act.put]
                        go_upto_region 28 with fail
                        go_cut [113] (fun s113 wx => PushPost w4 w2.heap.size ns.length bA V (LL (grO ns) i j) false i k wx)
                        case first =>
                          have hw24 := HK4.out.size
                          have hg2a : (w4.alloc (.cells #[intV k] 3 (0, 0))).cell? ⟨g, 2, none⟩ = some (.slice (some ⟨bA, 0, none⟩) ns.length ns.length) := (World.cell?_of_block (a := ⟨g, 2, none⟩) (hp_old (k := g) (by omega))).trans hg2
                          have hrla : (w4.alloc (.cells #[intV k] 3 (0, 0))).cell? ⟨bA, i, none⟩ = some (.slice va j vcap) := (World.cell?_of_block (a := ⟨bA, i, none⟩) (hp_old (k := bA) (by omega))).trans hrl
                          clear hw24
                          go_region_law (refine step_append_lies _ rfl (.tmp 109) (.tmp 111) 40 rfl w2.heap.size 3 i3 (.int .i64 0) 1 8 Tryz.underlying40 HI.out.1 HI.out.2.1 HI.out.2.2.1 HI.out.2.2.2 rfl (by decide) (.slice va j vcap) j ((LL (grO ns) i j false i).map intV) rfl (HO4.out _ rfl) ⟨w4.heap.size, 0, none⟩ 1 1 [intV k] rfl rfl (World.news_of_block (cs := #[intV k]) (t := 3) (fr := (0, 0)) (by exact hp_new rfl)) (by intro u hu; simp at hu; subst hu; rfl) (by decide) (by unfold maxLen; omega) (by omega) (by have := HK4.out.size; simp; omega) (w4.heap.size + 1) (by simp) ?_; intro g1 cap1 w5 hown hgrow hat hlt; obtain ⟨hS5, hcA5, hfA5⟩ := HG5.out (w4.alloc (.cells #[intV k] 3 (0, 0))).drew _ rfl hgrow)
                          all_goals go_wp2_with fail
                          all_goals go_meet
                          all_goals exact push_post HFM4.out hilt HA4.out (by omega) HK4.out.size (W := (w4.alloc (.cells #[intV k] 3 (0, 0))).drew) (o := .cells #[intV k] 3 (0, 0)) rfl rfl rfl rfl HLR.out HVF.out hown hgrow (by rw [show (w4.alloc (.cells #[intV k] 3 (0, 0))).drew.heap.size = w4.heap.size + 1 by simp]; exact hat)
                        case rest =>
                          obtain ⟨v1, hkv, hrv, hfv, hbv, hvv⟩ := hcut
                          generalize wc = w5 at *
                          have HK5 := Lib.hid (HK4.out.trans (hkv.mono (Nat.le_refl _) fun _ _ e => .inl e))
                          have HA5 := Lib.hid hrv
                          have hwbA : bA < w2.heap.size := by omega
                          have hwbB : bB < w2.heap.size := by omega
                          have HB5 : Hid (w5.rowIs bB 40 ns.length (V true)) := HB4.out.of_block (hkv.block bB hwbB (fun e => d3 e.symm))
                          have HF5 := Lib.hid hfv
                          have HM5 : Hid (MapF .string Value.string w5 bs (seenF ((needA (grO ns) i).take j ++ [y.data.toList]))) := HM4.out.of_block (hbv bs hbs4 (by omega) (HAV.out false i hilt))
                          have HAV5 : Hid (∀ c r, r < ns.length → (upd V false i v1 c r).ownBlock ≠ some bs) := fun c r hr => by
                            by_cases e : c = false ∧ r = i
                            · rw [e.1, e.2, upd_same]
                              rcases hvv with h | ⟨kk, h, hk5⟩
                              · rw [h]; exact HAV.out false i hilt
                              · rw [h]; intro e2; injection e2 with e2; omega
                            · rw [upd_other e]; exact HAV.out c r hr
                          have hws5 : w4.heap.size ≤ w5.heap.size := hkv.size
                          clear hkv hrv hfv hbv hvv HK4 HA4 HB4 HFM4 HM4 HS4 HO4 HG5 HLR HVF hrl hfr hg2 hg3
                          obtain ⟨_, _, hg2, hg3, _⟩ := HKW.out w5 HK5.out
                          have hrl : w5.cell? ⟨bB, k, none⟩ = some (V true k) := HB5.out.cell hpk
                          have hfr := HB5.out.frozen k
                          have hlr : (upd (LL (grO ns) i j) false i (LL (grO ns) i j false i ++ [k]) true k).length ≤ 1025 := by
                            rw [upd_other (by simp)]
                            show (((List.range i).filter fun m => decide (k ∈ ab (grO ns) m)) ++ if k ∈ (ab (grO ns) i).take j then [i] else []).length ≤ 1025
                            have h1 := List.length_filter_le (fun m => decide (k ∈ ab (grO ns) m)) (List.range i)
                            rw [List.length_range] at h1
                            rw [List.length_append]
                            split
                            · simp; omega
                            · simp; omega
                          obtain ⟨va, vcap, hvf⟩ := (HF5.out.row true k hpk).form
                          generalize hlb : (upd (LL (grO ns) i j) false i (LL (grO ns) i j false i ++ [k]) true k).length = lb at *
                          have HVF := Lib.hid hvf
                          have hvf2 : V true k = .slice va lb vcap := by rw [← hvf, upd_other (by simp)]
                          rw [hvf2] at hrl
                          clear hvf2
                          have HO4 : Hid (∀ W : World, W.heap = (w5.alloc (.cells #[intV i] 3 (0, 0))).heap → W.ownsRow w2.heap.size 3 1 (.slice va lb vcap) lb ((upd (LL (grO ns) i j) false i (LL (grO ns) i j false i ++ [k]) true k).map intV)) := fun W hW => by
                            have := HF5.out.row true k hpk
                            unfold IRow at this
                            rw [hlb, hvf] at this
                            have h2 := World.ownsRow.alloc this (.cells #[intV i] 3 (0, 0))
                            unfold World.ownsRow at h2 ⊢
                            rw [hW]
                            exact h2
                          have hw24 := HK5.out.size
                          have HG5 : Hid (∀ W w6 : World, W.heap = (w5.alloc (.cells #[intV i] 3 (0, 0))).heap → W.grownBy w6 (Value.slice va lb vcap).ownBlock → w6.cell? ⟨g, 3, none⟩ = some (.slice (some ⟨bB, 0, none⟩) ns.length ns.length) ∧ w6.cell? ⟨bB, k, none⟩ = some (.slice va lb vcap) ∧ w6.frozen? ⟨bB, k, none⟩ = false) := fun W w6 hW hg => by
                            have hbk : ∀ b, b < w2.heap.size → b < w5.heap.size → w6.heap[b]? = w5.heap[b]? := fun b hb hb4 => (hg.block b (by rw [hW]; simp; omega) (fun e => by
                              rw [← hvf] at e
                              have := ((HF5.out.row true k hpk).lt b e.symm).1
                              omega)).trans (by rw [hW]; exact hp_old hb4)
                            exact ⟨(World.cell?_of_block (a := ⟨g, 3, none⟩) (hbk g (by omega) (by omega))).trans hg3, (World.cell?_of_block (a := ⟨bB, k, none⟩) (hbk bB (by omega) (by omega))).trans hrl, (World.frozen?_of_block (a := ⟨bB, k, none⟩) (hbk bB (by omega) (by omega))).trans hfr⟩
                          have HLR := Lib.hid hlb
                          have hg3a : (w5.alloc (.cells #[intV i] 3 (0, 0))).cell? ⟨g, 3, none⟩ = some (.slice (some ⟨bB, 0, none⟩) ns.length ns.length) := (World.cell?_of_block (a := ⟨g, 3, none⟩) (hp_old (k := g) (by omega))).trans hg3
                          have hrla : (w5.alloc (.cells #[intV i] 3 (0, 0))).cell? ⟨bB, k, none⟩ = some (.slice va lb vcap) := (World.cell?_of_block (a := ⟨bB, k, none⟩) (hp_old (k := bB) (by omega))).trans hrl
                          clear hvf hlb
                          have HNEXT : Hid (∀ t w6, t = .int .i64 ((j + 1 : Nat) : Int) → PushPost w5 w2.heap.size ns.length bB (upd V false i v1) (upd (LL (grO ns) i j) false i (LL (grO ns) i j false i ++ [k])) true k i w6 → NeedIn w2 ns.length bA bB bs i (grO ns) (nl.length - (j + 1)) t w6) := by
                            rintro t w6 rfl ⟨v2, hkv, hrv, hfv, hbv, hvv⟩
                            have HK6 := Lib.hid (HK5.out.trans (hkv.mono (Nat.le_refl _) fun _ _ e => .inr e))
                            have HB6 := Lib.hid hrv
                            have HA6 : Hid (w6.rowIs bA 40 ns.length (upd (upd V false i v1) true k v2 false)) := (HA5.out.of_block (hkv.block bA hwbA d3)).congr fun r _ => by rw [upd_other (W := upd V false i v1) (by simp)]
                            have HM6 : Hid (MapF .string Value.string w6 bs (seenF ((needA (grO ns) i).take (j + 1)))) := by
                              unfold Hid
                              rw [HTK.out]
                              exact HM5.out.of_block (hbv bs (by omega) (by omega) (HAV5.out true k hpk))
                            have HAV6 : Hid (∀ c r, r < ns.length → (upd (upd V false i v1) true k v2 c r).ownBlock ≠ some bs) := fun c r hr => by
                              by_cases e : c = true ∧ r = k
                              · rw [e.1, e.2, upd_same]
                                rcases hvv with h | ⟨kk, h, hk5⟩
                                · rw [h]; exact HAV5.out true k hpk
                                · rw [h]; intro e2; injection e2 with e2; omega
                              · rw [upd_other e]; exact HAV5.out c r hr
                            have hab : (ab (grO ns) i).length = nl.length := by unfold ab; rw [List.length_map, HNL.out]
                            have HF6 : Hid (Fam w6 w2.heap.size ns.length (upd (upd V false i v1) true k v2) (LL (grO ns) i (j + 1))) := hfv.congr fun c r _ => by
                              refine LL_step (grO ns) (by rw [hab]; exact hjlt) ?_ ?_ c r
                              · have e1 : (ab (grO ns) i).getD j 0 = posG (grO ns) ((needA (grO ns) i).getD j []) := by
                                  unfold ab
                                  rw [List.getD, List.getD, List.getElem?_map, List.getElem?_eq_getElem (show j < (needA (grO ns) i).length by rw [HNL.out]; exact hjlt)]
                                  rfl
                                rw [e1, HY.out, HKD.out]
                              · unfold ab
                                rw [← List.map_take]
                                intro hmem
                                obtain ⟨z, hz, hze⟩ := List.mem_map.1 hmem
                                have := posG_inj (HSUB.out z hz) HIN.out (hze.trans HKD.out.symm)
                                exact HSNN.out (this ▸ hz)
                            refine ⟨j + 1, _, rfl, by rw [HNL.out]; omega, by rw [HNL.out], by rw [HTK.out]; exact HN2.out, ?_, ?_, HK6.out, HA6.out, HB6.out, HF6.out, HM6.out, HAV6.out⟩
                            · rw [HTK.out]
                              intro b hb
                              rcases List.mem_append.1 hb with hb | hb
                              · exact HSUB.out b hb
                              · simp at hb; subst hb; exact HIN.out
                            · rw [HTK.out, List.nodup_append]
                              exact ⟨HNOD.out, by simp, fun a ha b hb => by simp at hb; subst hb; rintro rfl; exact HSNN.out ha⟩
                          go_upto_region 29 with fail
                          go_region_law (refine step_append_lies _ rfl (.tmp 125) (.tmp 127) 40 rfl w2.heap.size 3 i3 (.int .i64 0) 1 8 Tryz.underlying40 HI.out.1 HI.out.2.1 HI.out.2.2.1 HI.out.2.2.2 rfl (by decide) (.slice va lb vcap) lb ((upd (LL (grO ns) i j) false i (LL (grO ns) i j false i ++ [k]) true k).map intV) rfl (HO4.out _ rfl) ⟨w5.heap.size, 0, none⟩ 1 1 [intV i] rfl rfl (World.news_of_block (cs := #[intV i]) (t := 3) (fr := (0, 0)) (by exact hp_new rfl)) (by intro u hu; simp at hu; subst hu; rfl) (by decide) (by unfold maxLen; omega) (by omega) (by have := HK5.out.size; simp; omega) (w5.heap.size + 1) (by simp) ?_; intro g1 cap1 w6 hown hgrow hat hlt; obtain ⟨hS5, hcA5, hfA5⟩ := HG5.out (w5.alloc (.cells #[intV i] 3 (0, 0))).drew _ rfl hgrow)
                          all_goals
                            have HPP := Lib.hid (push_post HF5.out hpk (HB5.out.congr fun r _ => by rw [upd_other (by simp)]) (by omega) HK5.out.size (W := (w5.alloc (.cells #[intV i] 3 (0, 0))).drew) (o := .cells #[intV i] 3 (0, 0)) rfl rfl rfl rfl HLR.out HVF.out hown hgrow (by rw [show (w5.alloc (.cells #[intV i] 3 (0, 0))).drew.heap.size = w5.heap.size + 1 by simp]; exact hat))
                            have hmea : nl.length - (j + 1) < nl.length - j := by omega
                            clear hown hgrow hat hlt hS5 hcA5 hfA5
                            generalize w6.setCell ⟨bB, k, none⟩ (.slice (some ⟨g1, 0, none⟩) (lb + 1) cap1) = w7 at *
                            as_aux_lemma =>
                            go_wp2_with fail
                            go_roundg (nl.length - (j + 1))
                            case measure => omega
                            case rel => exact HNEXT.out _ _ (by go_num) HPP.out
                    · have HF8 : Hid (formedF (grO ns) = 8) := HFE.out 8 (by decide) (by rw [HNS.out, if_pos hin])
                      have hlk : idxTo (grO ns) ns.length y = none := by unfold idxTo; rw [htk, if_neg hin]
                      have LK := MapF.lookup (P := Tryz.prog) HMP.out Tryz.underlying66 Tryz.underlying9 (z := .int .i64 0) (by kernel_rfl) (a := y) trivial true
                      rw [hlk] at LK
                      simp only [Option.getD_none, Option.isSome_none, if_true] at LK
                      clear hlk htk hin
                      as_aux_lemma =>
                      go_wp2_with fail
                      go_ret2
                      exact ⟨_, by rw [HF8.out]; rfl, HBW.out, (by rw [HF8.out]; intro h; cases h), fun _ => rfl⟩
                  · have hje : j = nl.length := by omega
                    subst hje
                    have HZ : Hid (needF (idsG (grO ns)) [] (needA (grO ns) i) = 0) := by
                      unfold Hid
                      rw [← HNF.out, List.drop_of_length_le (by rw [HNL.out]; exact Nat.le_refl _)]
                      rfl
                    have hab : (ab (grO ns) i).length = nl.length := by unfold ab; rw [List.length_map, HNL.out]
                    have HF6 : Hid (Fam wr w2.heap.size ns.length V (LL (grO ns) (i + 1) 0)) := HFM.out.congr fun c r _ => by rw [LL_next, hab]
                    clear hab
                    go_wp2_with fail
                    go_meet
                    exact ⟨V, HKP.out, HA.out, HB.out, HF6.out, HZ.out⟩
              case rest =>
                obtain ⟨V, hk, ha, hb, hf, hz⟩ := hcut
                have HKC := Lib.hid hk
                have HAC := Lib.hid ha
                have HBC := Lib.hid hb
                have HFC := Lib.hid hf
                have HND2 : Hid (needsF (idsG (grO ns)) ((grO ns).drop (i + 1)) = needsF (idsG (grO ns)) (grO ns)) := by
                  unfold Hid; rw [← HND.out, HSTEP.out, if_pos hz]
                clear hk ha hb hf hz
                go_wp2_with fail
                go_roundg (ns.length - (i + 1))
                case measure => omega
                case rel => exact ⟨i + 1, V, by go_num, by omega, rfl, HND2.out, HKC.out, HAC.out, HBC.out, HFC.out⟩
            · have hie : i = ns.length := by omega
              subst hie
              go_wp2_with fail
              go_meet
              exact ⟨ns.length, W, rfl, Nat.le_refl _, by omega, HND.out, HKP.out, HA.out, HB.out, HFM.out⟩
        case rest =>
          obtain ⟨i, V, hi, _, _, hnd, hk, ha, hb, hf⟩ := hcut
          have hie : i = ns.length := by injection hi with _ hi; omega
          subst hie
          have HZ : Hid (formedF (grO ns) = 0) := by
            unfold Hid
            rw [HF2.out, ← hnd, List.drop_of_length_le (by rw [grO_len]; exact Nat.le_refl _)]
            rfl
          obtain ⟨hbw, h1, h2, h3, h4⟩ := HKW.out _ hk
          have hgl3 : g < w2.heap.size := by omega
          have hnet : NetAt wc g (.slice nao ns.length ncap) ns := by
            refine ⟨bm, _, _, (hk.block g hgl3 (by rintro (e | e); exact d5 e; exact d6 e)).trans HG2.out, HN.out.below hbw, h4.congr fun s => ?_, ⟨bA, V false, rfl, ha, fun r hr => ?_⟩, ⟨bB, V true, rfl, hb, fun r hr => ?_⟩⟩
            · unfold idxF idxTo
              rw [List.take_of_length_le (by rw [ids_len, grO_len]; exact Nat.le_refl _)]
            · have := (hf.row false r hr).at
              have e := (LL_end (grO ns) (r := r) (by rw [grO_len]; exact hr)).1
              rw [grO_len] at e
              rwa [e] at this
            · have := (hf.row true r hr).at
              have e := (LL_end (grO ns) (r := r) (by rw [grO_len]; exact hr)).2
              rw [grO_len] at e
              rwa [e] at this
          have HNET := Lib.hid hnet
          have HBW := Lib.hid hbw
          clear hk ha hb hf hnd h1 h2 h3 h4 hnet hbw hi
          go_wp2_with fail
          go_ret2
          exact ⟨_, by rw [HZ.out]; rfl, HBW.out, fun _ => ⟨g, rfl, HNET.out⟩, fun h => absurd HZ.out h⟩
end Go.Proofs.YtfegmmafcopbpaaGreatDoor
