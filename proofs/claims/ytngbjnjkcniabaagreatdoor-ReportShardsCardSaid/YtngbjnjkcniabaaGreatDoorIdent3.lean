/- The walks over Parts of package ident, and the reference's Name, Split, Parts, IsPath. -/
import Derived.Test.YtngbjnjkcniabaaGreatDoorIdent2
import Derived.Test.YtngbjnjkcniabaaGreatDoorShelf
namespace Go.Proofs.YtngbjnjkcniabaaGreatDoor
open Go.RowKit

def PartsPost (l : List UInt8) (w : World) (e : Ending) (w' : World) : Prop :=
  ∃ (v : Value) (ss : List ByteArray), e = .returned (.tuple #[v, .int .i64 (partsF l : Nat)]) ∧ Below w.heap.size w w' ∧ (partsF l = 0 → StrsAt w' v ss ∧ ss.map (·.data.toList) = pcs 47 l) ∧ (partsF l ≠ 0 → v = .slice none 0 0)

theorem allN_pathF {ss : List ByteArray} {l : List UInt8} (h : ss.map (·.data.toList) = pcs 47 l) : allN ss ss.length = pathF l := by
  unfold allN pathF
  rw [List.take_length, ← h, List.all_map]
  rfl

theorem split_pcs (s : ByteArray) : (Lib.splitB ⟨#[47]⟩ 0 (Lib.countB s ⟨#[47]⟩) s).map (·.data.toList) = pcs 47 s.data.toList := by
  rw [Lib.splitB_data]
  exact splitK_pcs 47 _ _ (Nat.le_refl _)

set_option maxRecDepth 100000 in
set_option maxHeartbeats 800000 in
theorem parts_any (s : ByteArray) (m : Int) (w : World) (hm : w.cell? ⟨0, 0, none⟩ = some (.int .i64 m)) :
    Calls Tryz.prog 36 #[.string s] w (PartsPost s.data.toList w) := by
  have HS := Lib.hid (Lib.size_eq s)
  go_enter Tryz.func36, Tryz.ntmps36
  by_cases hl : 512 < s.size
  · have HP : Hid (partsF s.data.toList = 3) := by unfold Hid partsF; rw [if_pos (by rw [← HS.out]; exact hl)]
    have hli : (512 : Int) < (s.size : Int) := by omega
    go_wp2_with fail
    go_ret2
    exact ⟨_, [], by rw [HP.out]; rfl, Below.refl _ _, (by rw [HP.out]; simp), fun _ => rfl⟩
  · have HP : Hid (partsF s.data.toList = if pathF s.data.toList then 0 else 1) := by unfold Hid partsF; rw [if_neg (by rw [← HS.out]; exact hl)]
    go_wp2_with fail
    refine (Tryz.strings_Split s ⟨#[47]⟩ m w (by omega) hm (by decide)).mono ?_
    rintro e w1 ⟨rfl, rfl⟩
    have hlen := Lib.splitB_all ⟨#[47]⟩ (by decide) 0 _ s rfl
    have hle := Lib.countB_le ⟨#[47]⟩ (by decide) s.size s (Nat.le_refl _)
    have HPC := Lib.hid (split_pcs s)
    have hat : StrsAt (w.alloc (.cells ((Lib.splitB ⟨#[47]⟩ 0 (Lib.countB s ⟨#[47]⟩) s).map Value.string).toArray 9)) (.slice (some ⟨w.heap.size, 0, none⟩) (Lib.countB s ⟨#[47]⟩ + 1) (Lib.countB s ⟨#[47]⟩ + 1)) (Lib.splitB ⟨#[47]⟩ 0 (Lib.countB s ⟨#[47]⟩) s) := by
      refine .inr ⟨w.heap.size, 0, _, by rw [hlen], by simp, by rw [hlen]; exact Nat.le_refl _, fun i hi => ?_⟩
      rw [cell_of_blk (hp_new rfl)]
      simp [List.getD, hi]
    have HAT := Lib.hid hat
    have HB1 := Lib.hid ((Below.refl w.heap.size w).alloc (Nat.le_refl _) (.cells ((Lib.splitB ⟨#[47]⟩ 0 (Lib.countB s ⟨#[47]⟩) s).map Value.string).toArray 9))
    clear hat
    generalize w.alloc (.cells ((Lib.splitB ⟨#[47]⟩ 0 (Lib.countB s ⟨#[47]⟩) s).map Value.string).toArray 9) = w1 at *
    generalize Lib.splitB ⟨#[47]⟩ 0 (Lib.countB s ⟨#[47]⟩) s = ss at *
    generalize Lib.countB s ⟨#[47]⟩ = n at *
    go_wp2_with fail
    refine (names_any _ ss (by omega) (by omega) w1 HAT.out).mono ?_
    rintro e w2 ⟨rfl, hb⟩
    rw [allN_pathF HPC.out]
    have HB2 := Lib.hid (HB1.out.trans (hb.mono HB1.out.size))
    have HAT2 := Lib.hid (HAT.out.below hb)
    clear hb
    cases hp : pathF s.data.toList with
    | true =>
      have HP2 : Hid (partsF s.data.toList = 0) := by unfold Hid; rw [HP.out, hp]; rfl
      clear hp
      go_wp2_with fail
      go_ret2
      exact ⟨_, ss, by rw [HP2.out]; rfl, HB2.out, fun _ => ⟨HAT2.out, HPC.out⟩, fun h => absurd HP2.out h⟩
    | false =>
      have HP2 : Hid (partsF s.data.toList = 1) := by unfold Hid; rw [HP.out, hp]; rfl
      clear hp
      go_wp2_with fail
      go_ret2
      exact ⟨_, [], by rw [HP2.out]; rfl, HB2.out, (by rw [HP2.out]; simp), fun _ => rfl⟩

def RNameRel (w1 : World) (l : List UInt8) (f : Nat) (t3 : Value) (wr : World) : Prop :=
  ∃ k : Nat, t3 = .int .i64 (k : Nat) ∧ k ≤ l.length ∧ f = l.length - k ∧ allTo l k = true ∧ wr = w1

set_option maxRecDepth 100000 in
set_option maxHeartbeats 1600000 in
theorem rname_any (s : ByteArray) (w : World) : Calls Tryz.prog 82 #[.string s] w fun e w' => e = .returned (.bool (nameF s.data.toList)) ∧ w' = w := by
  have HS := Lib.hid (Lib.size_eq s)
  go_enter Tryz.func82, Tryz.ntmps82
  by_cases hl0 : s.size < 1
  · have HN : Hid (nameF s.data.toList = false) := by
      unfold Hid; rw [nameF_eq, ← HS.out]; simp; omega
    have h0 : s.size = 0 := by omega
    go_wp2_with fail
    go_ret
    exact ⟨by rw [HN.out]; rfl, rfl⟩
  · by_cases h64 : 64 < s.size
    · have HN : Hid (nameF s.data.toList = false) := by
        unfold Hid; rw [nameF_eq, ← HS.out]; simp; omega
      have h64i : (64 : Int) < (s.size : Int) := by omega
      have h1i : decide ((s.size : Int) < 1) = false := by simp; omega
      go_wp2_with fail
      go_ret
      exact ⟨by rw [HN.out]; rfl, rfl⟩
    · have HN : Hid (nameF s.data.toList = allTo s.data.toList s.data.toList.length) := by
        unfold Hid; rw [nameF_eq, ← HS.out]; simp; omega
      have h64i : decide ((64 : Int) < (s.size : Int)) = false := by simp; omega
      have h1i : decide ((s.size : Int) < 1) = false := by simp; omega
      go_wp2_with fail
      rw [str_at (s := s) rfl 0 (by omega)]
      refine (letter_any _ _).mono ?_
      rintro e w1 ⟨rfl, rfl⟩
      cases h0 : letF (s.data.toList.getD 0 0) with
      | false =>
        have HA : Hid (allTo s.data.toList s.data.toList.length = false) := allTo_no (k := 0) (by unfold atF; rw [h0]; rfl) (by rw [← HS.out]; omega)
        clear h0
        go_wp2_with fail
        go_ret
        exact ⟨by rw [HN.out, HA.out]; rfl, rfl⟩
      | true =>
        have H0 := Lib.hid h0
        clear h0
        go_wp2_with fail
        go_loopg [3] s.data.toList.length (RNameRel w1 s.data.toList)
        case atStart => exact ⟨0, rfl, Nat.zero_le _, rfl, rfl, rfl⟩
        case round =>
          obtain ⟨k, rfl, hk, rfl, hall, rfl⟩ := hrel
          have HALL := Lib.hid hall
          have HK := Lib.hid hk
          rw [← HS.out] at hk
          clear hall
          by_cases hlt : k < s.size
          · have hat := str_at (s := s) rfl k hlt
            have HAS := Lib.hid (allTo_succ s.data.toList k)
            have HAN := Lib.hid (fun h => allTo_no (l := s.data.toList) (k := k) (n := s.data.toList.length) h (by rw [← HS.out]; exact hlt))
            have HAT : Hid (atF s.data.toList k = (letF (s.data.toList.getD k 0) || (decide (0 < k) && punF (s.data.toList.getD k 0)))) := rfl
            have HK0 : Hid (k = 0 → letF (s.data.toList.getD k 0) = true) := by rintro rfl; exact H0.out
            have hii : (k : Int) < (s.size : Int) := by omega
            generalize hc : s.data.toList.getD k 0 = c at hat HAT HK0
            have HKK := Lib.hid hc
            clear hc
            have fin : ∀ b : Bool, atF s.data.toList k = b → (b = true → allTo s.data.toList (k + 1) = true) ∧ (b = false → allTo s.data.toList s.data.toList.length = false) := by
              intro b hb
              refine ⟨fun e => by rw [HAS.out, HALL.out, hb, e]; rfl, fun e => HAN.out (by rw [hb, e])⟩
            have FIN := Lib.hid fin
            clear fin
            go_wp2_with fail
            refine (letter_any _ _).mono ?_
            rintro e w1 ⟨rfl, rfl⟩
            cases hlet : letF c with
            | true =>
              have HA : Hid (allTo s.data.toList (k + 1) = true) := (FIN.out true (by rw [HAT.out, hlet]; rfl)).1 rfl
              clear hlet
              as_aux_lemma =>
              go_wp2_with fail
              go_roundg (s.data.toList.length - (k + 1))
              case measure => have := HS.out; omega
              case rel => exact ⟨k + 1, by go_num, by have := HS.out; omega, rfl, HA.out, rfl⟩
            | false =>
              have hkp : 0 < k := by
                by_cases h : 0 < k
                · exact h
                · have := HK0.out (by omega); rw [hlet] at this; cases this
              have hv : atF s.data.toList k = punF c := by rw [HAT.out, hlet]; simp [hkp]
              have HV := Lib.hid hv
              clear hv hlet
              by_cases e1 : c.toNat = 95
              · have HA : Hid (allTo s.data.toList (k + 1) = true) := (FIN.out true (by rw [HV.out]; unfold punF; simp [e1])).1 rfl
                have f1 : ((c.toNat : Int) != 95) = false := by simp; omega
                clear e1
                as_aux_lemma =>
                go_wp2_with fail
                go_roundg (s.data.toList.length - (k + 1))
                case measure => have := HS.out; omega
                case rel => exact ⟨k + 1, by go_num, by have := HS.out; omega, rfl, HA.out, rfl⟩
              · have f1 : ((c.toNat : Int) != 95) = true := by rw [bne_iff_ne]; omega
                by_cases e2 : c.toNat = 45
                · have HA : Hid (allTo s.data.toList (k + 1) = true) := (FIN.out true (by rw [HV.out]; unfold punF; simp [e2])).1 rfl
                  have f2 : ((c.toNat : Int) != 45) = false := by simp; omega
                  clear e1 e2
                  as_aux_lemma =>
                  go_wp2_with fail
                  go_roundg (s.data.toList.length - (k + 1))
                  case measure => have := HS.out; omega
                  case rel => exact ⟨k + 1, by go_num, by have := HS.out; omega, rfl, HA.out, rfl⟩
                · have f2 : ((c.toNat : Int) != 45) = true := by rw [bne_iff_ne]; omega
                  by_cases e3 : c.toNat = 46
                  · have HA : Hid (allTo s.data.toList (k + 1) = true) := (FIN.out true (by rw [HV.out]; unfold punF; simp [e3])).1 rfl
                    have f3 : ((c.toNat : Int) != 46) = false := by simp; omega
                    clear e1 e2 e3
                    as_aux_lemma =>
                    go_wp2_with fail
                    go_roundg (s.data.toList.length - (k + 1))
                    case measure => have := HS.out; omega
                    case rel => exact ⟨k + 1, by go_num, by have := HS.out; omega, rfl, HA.out, rfl⟩
                  · have HA : Hid (allTo s.data.toList s.data.toList.length = false) := (FIN.out false (by rw [HV.out]; unfold punF; simp [e1, e2, e3])).2 rfl
                    have f3 : ((c.toNat : Int) != 46) = true := by rw [bne_iff_ne]; omega
                    clear e1 e2 e3
                    as_aux_lemma =>
                    go_wp2_with fail
                    go_ret
                    exact ⟨by rw [HN.out, HA.out]; rfl, rfl⟩
          · have he : k = s.data.toList.length := by rw [← HS.out]; omega
            have HA : Hid (allTo s.data.toList s.data.toList.length = true) := by rw [← he]; exact HALL.out
            have hii : ¬ (k : Int) < (s.size : Int) := by omega
            clear he
            go_wp2_with fail
            go_ret
            exact ⟨by rw [HN.out, HA.out]; rfl, rfl⟩

def RSplitPost (l : List UInt8) (w : World) (e : Ending) (w' : World) : Prop :=
  ∃ (v : Value) (ss : List ByteArray), e = .returned v ∧ w'.ownsRow w.heap.size 9 1 v ss.length (ss.map Value.string) ∧ ss.map (·.data.toList) = pcs 47 l ∧ Below w.heap.size w w'

theorem Tryz.info9 : (Tryz.prog.info? 9).map (fun i => (i.zero, i.size, i.bytes)) = some (some (.string ByteArray.empty), 1, 16) := by kernel_rfl
theorem Tryz.info9' : ∃ i, Tryz.prog.info? 9 = some i ∧ i.zero = some (.string ByteArray.empty) ∧ i.size = 1 ∧ i.bytes = 16 := info_parts Tryz.info9

def RSplitRel (w1 : World) (l : List UInt8) (f : Nat) (t3 t4 t5 : Value) (wr : World) : Prop :=
  ∃ (k fr : Nat) (ss : List ByteArray), t5 = .int .i64 (k : Nat) ∧ t4 = .int .i64 (fr : Nat) ∧ fr ≤ k ∧ ss.length ≤ k ∧ f = l.length + 1 - k ∧
    ((k ≤ l.length ∧ pcs 47 l = ss.map (·.data.toList) ++ glue ((l.drop fr).take (k - fr)) (pcs 47 (l.drop k))) ∨ (k = l.length + 1 ∧ pcs 47 l = ss.map (·.data.toList))) ∧
    wr.ownsRow w1.heap.size 9 1 t3 ss.length (ss.map Value.string) ∧ Below w1.heap.size w1 wr

set_option maxRecDepth 100000 in
set_option maxHeartbeats 1600000 in
theorem rsplit_any (s : ByteArray) (hs : s.size ≤ 512) (w : World) : Calls Tryz.prog 81 #[.string s] w (RSplitPost s.data.toList w) := by
  have HS := Lib.hid (Lib.size_eq s)
  obtain ⟨i9, hi9⟩ := Tryz.info9'
  have HI := Lib.hid hi9
  clear hi9
  go_enter Tryz.func81, Tryz.ntmps81
  go_wp2_with fail
  go_loopg [3, 4, 5] (s.data.toList.length + 1) (RSplitRel w s.data.toList)
  case atStart => exact ⟨0, 0, [], rfl, rfl, Nat.le_refl _, Nat.le_refl _, rfl, .inl ⟨Nat.zero_le _, (by simp [glue_nil])⟩, World.ownsRow_nil _ _ _ _, Below.refl _ _⟩
  case round =>
    obtain ⟨k, fr, ss, rfl, rfl, hfr, hss, rfl, hpc, hrow, hbel⟩ := hrel
    obtain ⟨ao, cap, rfl⟩ := ownsRow_form hrow
    have HR := Lib.hid hrow
    have HB := Lib.hid hbel
    have HP := Lib.hid hpc
    clear hrow hbel hpc
    by_cases hle : k ≤ s.size
    · have hli : (k : Int) ≤ (s.size : Int) := by omega
      have hex : (s.extract fr k).data.toList = (s.data.toList.drop fr).take (k - fr) := by rw [Lib.extract_eq]
      have HEX := Lib.hid hex
      have hpk : pcs 47 s.data.toList = ss.map (·.data.toList) ++ glue ((s.data.toList.drop fr).take (k - fr)) (pcs 47 (s.data.toList.drop k)) := by
        rcases HP.out with h | h
        · exact h.2
        · have := HS.out; omega
      have HPK := Lib.hid hpk
      clear hex hpk
      by_cases hend : k = s.size
      · subst hend
        have HF : Hid (pcs 47 s.data.toList = (ss ++ [s.extract fr s.size]).map (·.data.toList)) := by
          unfold Hid
          rw [HPK.out, List.drop_of_length_le (i := s.size) (l := s.data.toList) (by rw [← HS.out]; omega), glue_end, List.map_append, List.map_cons, List.map_nil, HEX.out]
        clear hle
        as_aux_lemma =>
        go_wp2_with (at_builtin; refine wpList_append2 rfl _ _ 36 rfl w.heap.size 9 i9 (.string ByteArray.empty) 1 16 Tryz.underlying36 HI.out rfl (by decide) _ _ _ rfl (HR.out.alloc _) ⟨wr.heap.size, 0, none⟩ 1 1 [.string (s.extract fr s.size)] rfl rfl (cells_newAt rfl _ 9 (0, 0)) rfl (by unfold maxLen; omega) (by omega) (by have := HB.out.size; simp; omega) ?_)
        intro v' w2 hown hgrow hwh
        obtain ⟨ao', cap', rfl⟩ := ownsRow_form hown
        have HOWN := Lib.hid hown
        have HBG := Lib.hid ((HB.out.alloc HB.out.size _).grown hgrow (by have := HB.out.size; simp; omega) (fun j hj => (HR.out.lt j hj).1))
        clear hown hgrow hwh
        go_wp2_with fail
        go_roundg (s.data.toList.length + 1 - (s.size + 1))
        case measure => have := HS.out; omega
        case rel =>
          refine ⟨s.size + 1, s.size + 1, ss ++ [s.extract fr s.size], by go_num, by go_num, Nat.le_refl _, by simp; omega, rfl, .inr ⟨by have := HS.out; omega, HF.out⟩, ?_, HBG.out⟩
          have := HOWN.out
          simpa using this
      · have hlt : k < s.size := by omega
        have te : ((k : Int) == (s.size : Int)) = false := by rw [beq_eq_false_iff_ne]; omega
        have hat := str_at (s := s) rfl k hlt
        have hdr : s.data.toList.drop k = s.data.toList.getD k 0 :: s.data.toList.drop (k + 1) := by
          rw [List.drop_eq_getElem_cons (by rw [← HS.out]; exact hlt)]
          rw [List.getD, List.getElem?_eq_getElem (by rw [← HS.out]; exact hlt)]
          rfl
        have htk : (s.data.toList.drop fr).take (k + 1 - fr) = (s.data.toList.drop fr).take (k - fr) ++ [s.data.toList.getD k 0] := by
          rw [show k + 1 - fr = (k - fr) + 1 by omega, List.take_add_one, List.getElem?_drop, show fr + (k - fr) = k by omega]
          simp [List.getD, List.getElem?_eq_getElem (show k < s.data.toList.length by rw [← HS.out]; exact hlt)]
        have HDR := Lib.hid hdr
        have HTK := Lib.hid htk
        clear hdr htk hend
        generalize s.data.toList.getD k 0 = c at *
        by_cases hc : c = 47
        · have tc : ((c.toNat : Int) == 47) = true := by subst hc; rfl
          have HF : Hid (pcs 47 s.data.toList = (ss ++ [s.extract fr k]).map (·.data.toList) ++ glue ((s.data.toList.drop (k + 1)).take (k + 1 - (k + 1))) (pcs 47 (s.data.toList.drop (k + 1)))) := by
            unfold Hid
            rw [HPK.out, HDR.out, hc, glue_hit, List.map_append, List.map_cons, List.map_nil, HEX.out, Nat.sub_self, List.take_zero]
            simp
          clear hc
          as_aux_lemma =>
          go_wp2_with (at_builtin; refine wpList_append2 rfl _ _ 36 rfl w.heap.size 9 i9 (.string ByteArray.empty) 1 16 Tryz.underlying36 HI.out rfl (by decide) _ _ _ rfl (HR.out.alloc _) ⟨wr.heap.size, 0, none⟩ 1 1 [.string (s.extract fr k)] rfl rfl (cells_newAt rfl _ 9 (0, 0)) rfl (by unfold maxLen; omega) (by omega) (by have := HB.out.size; simp; omega) ?_)
          intro v' w2 hown hgrow hwh
          obtain ⟨ao', cap', rfl⟩ := ownsRow_form hown
          have HOWN := Lib.hid hown
          have HBG := Lib.hid ((HB.out.alloc HB.out.size _).grown hgrow (by have := HB.out.size; simp; omega) (fun j hj => (HR.out.lt j hj).1))
          clear hown hgrow hwh
          go_wp2_with fail
          go_roundg (s.data.toList.length + 1 - (k + 1))
          case measure => have := HS.out; omega
          case rel =>
            refine ⟨k + 1, k + 1, ss ++ [s.extract fr k], by go_num, by go_num, Nat.le_refl _, by simp; omega, rfl, .inl ⟨by have := HS.out; omega, HF.out⟩, ?_, HBG.out⟩
            have := HOWN.out
            simpa using this
        · have tc : ((c.toNat : Int) == 47) = false := by
            rw [beq_eq_false_iff_ne]
            intro e
            exact hc (by have : c.toNat = 47 := by omega
                         have h := UInt8.toNat_inj (a := c) (b := 47)
                         exact h.1 this)
          have HF : Hid (pcs 47 s.data.toList = ss.map (·.data.toList) ++ glue ((s.data.toList.drop fr).take (k + 1 - fr)) (pcs 47 (s.data.toList.drop (k + 1)))) := by
            unfold Hid
            rw [HPK.out, HDR.out, glue_miss hc, HTK.out]
          clear hc
          as_aux_lemma =>
          go_wp2_with fail
          go_roundg (s.data.toList.length + 1 - (k + 1))
          case measure => have := HS.out; omega
          case rel => exact ⟨k + 1, fr, ss, by go_num, rfl, by omega, by omega, rfl, .inl ⟨by have := HS.out; omega, HF.out⟩, HR.out, HB.out⟩
    · have hli : ¬ (k : Int) ≤ (s.size : Int) := by omega
      have HF : Hid (ss.map (·.data.toList) = pcs 47 s.data.toList) := by
        rcases HP.out with h | h
        · have := HS.out; omega
        · exact h.2.symm
      go_wp2_with fail
      go_ret
      exact ⟨_, ss, rfl, HR.out, HF.out, HB.out⟩
end Go.Proofs.YtngbjnjkcniabaaGreatDoor
