/- The walks over the reference's number, one, Same, Valid. -/
import Derived.Test.YtngbjnjkcniabaaGreatDoorRr1
import Derived.Test.YtngbjnjkcniabaaGreatDoorRep2
namespace Go.Proofs.YtngbjnjkcniabaaGreatDoor
open Go.RowKit

theorem digTo_step {l : List UInt8} {k : Nat} (hk : k < l.length) (h : digTo l k = true) (hd : isDig (l.getD k 0) = true) (hz : ¬ (k = 0 ∧ l.getD k 0 = 48 ∧ 1 < l.length)) : digTo l (k + 1) = true := by
  unfold digTo at h ⊢
  rw [Bool.and_eq_true] at h ⊢
  have hg : l.getD k 0 = l[k] := by rw [List.getD, List.getElem?_eq_getElem hk]; rfl
  rw [hg] at hd hz
  refine ⟨?_, ?_⟩
  · rw [List.take_add_one, List.getElem?_eq_getElem hk, List.all_append, h.1]
    simp [hd]
  · by_cases h0 : k = 0
    · subst h0
      have e : l.headD 0 = l[0] := by cases l with
        | nil => cases hk
        | cons a l => rfl
      rw [e]
      by_cases h1 : 1 < l.length
      · rw [decide_eq_false (fun e => hz ⟨rfl, e, h1⟩)]; simp
      · rw [decide_eq_false h1]; simp
    · have h2 := h.2
      rw [decide_eq_true (show 0 < k by omega)] at h2
      rw [decide_eq_true (show 0 < k + 1 by omega)]
      exact h2
theorem digB_bad {l : List UInt8} {k : Nat} (hk : k < l.length) (hd : isDig (l.getD k 0) = false) : digB l = false := by
  rw [Bool.eq_false_iff]
  intro h
  have h3 := (digB_parts h).2.2 l[k] (List.getElem_mem hk)
  rw [List.getD, List.getElem?_eq_getElem hk] at hd
  rw [show isDig l[k] = false from hd] at h3
  cases h3
theorem digB_zero {l : List UInt8} (h1 : 1 < l.length) (h : l.getD 0 0 = 48) : digB l = false := by
  rw [Bool.eq_false_iff]
  intro hb
  refine (digB_parts hb).2.1 ⟨h1, ?_⟩
  cases l with
  | nil => cases h1
  | cons a l => exact h
theorem cap_take {l : List UInt8} {k : Nat} (hk : k < l.length) : capF (l.take (k + 1)) = capV (capF (l.take k)) (l.getD k 0) := by
  rw [List.take_add_one, List.getElem?_eq_getElem hk, List.getD, List.getElem?_eq_getElem hk]
  exact capF_snoc _ _

def numR (l : List UInt8) : Nat := if digB l = true then capF l else 0
def RNumRel (w1 : World) (l : List UInt8) (f : Nat) (tn ti : Value) (wr : World) : Prop :=
  ∃ k : Nat, ti = .int .i64 (k : Nat) ∧ tn = .int .i64 ((capF (l.take k) : Nat) : Int) ∧ k ≤ l.length ∧ f = l.length - k ∧ digTo l k = true ∧ wr = w1

set_option maxRecDepth 100000 in
set_option maxHeartbeats 1600000 in
theorem rnumber_any (s : ByteArray) (hs : s.size ≤ 1000000) (w : World) : Calls Tryz.prog 53 #[.string s] w fun e w' => e = .returned (.tuple #[.int .i64 ((numR s.data.toList : Nat) : Int), .bool (digB s.data.toList)]) ∧ w' = w := by
  have HS := Lib.hid (Lib.size_eq s)
  have hlen : s.data.toList.length = s.size := (Lib.size_eq s).symm
  go_enter Tryz.func53, Tryz.ntmps53
  go_wp2_with fail
  go_loopg [4, 5] s.data.toList.length (RNumRel w s.data.toList)
  case atStart => exact ⟨0, rfl, rfl, Nat.zero_le _, rfl, rfl, rfl⟩
  case round =>
    obtain ⟨k, rfl, rfl, hk, rfl, hd, rfl⟩ := hrel
    rw [hlen] at hk
    have HD := Lib.hid hd
    clear hd
    by_cases hlt : k < s.size
    · have hat := str_at (s := s) rfl k hlt
      have hii : (k : Int) < (s.size : Int) := by omega
      have hlt' : k < s.data.toList.length := by omega
      have HCT := Lib.hid (cap_take hlt')
      have HST := Lib.hid (fun h1 h2 => digTo_step hlt' HD.out h1 h2)
      have HBD := Lib.hid (fun h1 => digB_bad (l := s.data.toList) hlt' h1)
      have HZ := Lib.hid (fun h1 h2 => digB_zero (l := s.data.toList) h1 h2)
      have hcap := capF_le (s.data.toList.take k)
      have HK0 : Hid (k = 0 → s.data.toList.getD 0 0 = s.data.toList.getD k 0) := fun h => by rw [h]
      generalize s.data.toList.getD k 0 = c at *
      generalize capF (s.data.toList.take k) = n at *
      have hcl := c.toNat_lt
      have HF : Hid (digB s.data.toList = false → numR s.data.toList = 0) := fun h => by unfold numR; rw [h]; rfl
      by_cases h1 : c.toNat < 48
      · have HB : Hid (digB s.data.toList = false) := HBD.out (by unfold isDig; simp; omega)
        have h1i : (c.toNat : Int) < 48 := by omega
        clear hlen
        as_aux_lemma =>
        go_wp2_with fail
        go_ret2
        exact ⟨by rw [HF.out HB.out, HB.out]; rfl, rfl⟩
      · by_cases h2 : 57 < c.toNat
        · have HB : Hid (digB s.data.toList = false) := HBD.out (by unfold isDig; simp; omega)
          have h1i : ¬ (c.toNat : Int) < 48 := by omega
          have h2i : (57 : Int) < (c.toNat : Int) := by omega
          clear hlen
          as_aux_lemma =>
          go_wp2_with fail
          go_ret2
          exact ⟨by rw [HF.out HB.out, HB.out]; rfl, rfl⟩
        · have h1i : ¬ (c.toNat : Int) < 48 := by omega
          have h2i : ¬ (57 : Int) < (c.toNat : Int) := by omega
          have hid : isDig c = true := by unfold isDig; simp; omega
          by_cases hz : k = 0 ∧ c = 48 ∧ 1 < s.size
          · obtain ⟨hk0, hc0, hl1⟩ := hz
            have HB : Hid (digB s.data.toList = false) := HZ.out (by omega) ((HK0.out hk0).trans hc0)
            subst hk0 hc0
            have hl1i : (1 : Int) < (s.size : Int) := by omega
            clear hlen
            as_aux_lemma =>
            go_wp2_with fail
            go_ret2
            exact ⟨by rw [HF.out HB.out, HB.out]; rfl, rfl⟩
          · have HN : Hid (digTo s.data.toList (k + 1) = true) := HST.out hid (by rw [hlen]; exact hz)
            have q1 : IntKind.i64.wrap (10 * (n : Int)) = 10 * (n : Int) := IntWalk.i64_in _ (by omega)
            have q2 : IntKind.u8.wrap ((c.toNat : Int) - 48) = (c.toNat : Int) - 48 := IntWalk.u8_in _ (by omega)
            have q3 : IntKind.i64.wrap ((c.toNat : Int) - 48) = (c.toNat : Int) - 48 := IntWalk.i64_in _ (by omega)
            have q4 : IntKind.i64.wrap (10 * (n : Int) + ((c.toNat : Int) - 48)) = 10 * (n : Int) + ((c.toNat : Int) - 48) := IntWalk.i64_in _ (by omega)
            have hz3 : ((k : Int) == 0) = false ∨ (((k : Int) == 0) = true ∧ ((c.toNat : Int) == 48) = false) ∨ (((k : Int) == 0) = true ∧ ((c.toNat : Int) == 48) = true ∧ ¬ (1 : Int) < (s.size : Int)) := by
              by_cases g1 : k = 0
              · have e1 : ((k : Int) == 0) = true := by rw [beq_iff_eq]; omega
                by_cases g2 : c = 48
                · exact .inr (.inr ⟨e1, by rw [g2]; rfl, fun h => hz ⟨g1, g2, by omega⟩⟩)
                · refine .inr (.inl ⟨e1, ?_⟩)
                  rw [beq_eq_false_iff_ne]
                  intro e
                  exact g2 (UInt8.toNat_inj.1 (by show c.toNat = 48; omega))
              · exact .inl (by rw [beq_eq_false_iff_ne]; omega)
            clear hz
            by_cases hbig : 1125899906842624 < 10 * n + (c.toNat - 48)
            · have HV : Hid (capV n c = 1125899906842625) := by unfold Hid capV; rw [if_pos hbig]
              have hbi : (1125899906842624 : Int) < 10 * (n : Int) + ((c.toNat : Int) - 48) := by omega
              clear hbig hlen
              rcases hz3 with z1 | ⟨z1, z2⟩ | ⟨z1, z2, z3⟩
              all_goals (
                as_aux_lemma =>
                go_wp2_with fail
                go_roundg (s.data.toList.length - (k + 1))
                case measure => have := HS.out; omega
                case rel => exact ⟨k + 1, by go_num, by rw [HCT.out, HV.out]; rfl, by have := HS.out; omega, rfl, HN.out, rfl⟩)
            · have HV : Hid (((capV n c : Nat) : Int) = 10 * (n : Int) + ((c.toNat : Int) - 48)) := by unfold Hid capV; rw [if_neg hbig]; omega
              have hbi : ¬ (1125899906842624 : Int) < 10 * (n : Int) + ((c.toNat : Int) - 48) := by omega
              clear hbig hlen
              rcases hz3 with z1 | ⟨z1, z2⟩ | ⟨z1, z2, z3⟩
              all_goals (
                as_aux_lemma =>
                go_wp2_with fail
                go_roundg (s.data.toList.length - (k + 1))
                case measure => have := HS.out; omega
                case rel => exact ⟨k + 1, by go_num, by rw [HCT.out, HV.out], by have := HS.out; omega, rfl, HN.out, rfl⟩)
    · have hii : ¬ (k : Int) < (s.size : Int) := by omega
      have hke : k = s.size := by omega
      have HKE := Lib.hid hke
      clear hke
      by_cases he : s.data.toList = []
      · have HE : Hid (digB s.data.toList = false) := by unfold Hid; rw [he]; rfl
        have HN : Hid (numR s.data.toList = 0) := by unfold Hid numR; rw [HE.out]; rfl
        have HC : Hid (capF (s.data.toList.take k) = 0) := by unfold Hid; rw [he, List.take_nil]; rfl
        have he2 := (str_nil he).1
        have he3 : (s.toList == []) = true := by rw [Lib.toList_data, he]; rfl
        clear he hlen
        as_aux_lemma =>
        go_wp2_with fail
        go_ret2
        exact ⟨by rw [HN.out, HE.out, HC.out]; rfl, rfl⟩
      · have HE : Hid (digB s.data.toList = true) := by
          have := HD.out
          rw [HKE.out, HS.out, digTo_full he] at this
          exact this
        have HN : Hid (numR s.data.toList = capF (s.data.toList.take k)) := by
          unfold Hid numR
          rw [HE.out, if_pos rfl, HKE.out, HS.out, List.take_length]
        have he2 : s.toList.isEmpty = false := by rw [Lib.toList_data]; cases h : s.data.toList with
          | nil => exact absurd h he
          | cons a l => rfl
        clear he hlen
        as_aux_lemma =>
        go_wp2_with fail
        go_ret2
        exact ⟨by rw [HN.out, HE.out]; rfl, rfl⟩
/- END NUMBER -/

/-- the status that the first rounds find -/
def stTo (sv k : Nat) : Nat := if sv < k then sv else 0
theorem statV_le (l : List UInt8) : statV l ≤ 3 := by
  unfold statV
  (repeat' split) <;> decide
theorem stat_word (a : ByteArray) {k : Nat} (h1 : 1 ≤ k) (h3 : k ≤ 3) : (a.toList == (wordB (k : Int)).toList) = decide (statV a.data.toList = k) := by
  rw [Lib.toList_data, Lib.toList_data, Bool.eq_iff_iff, beq_iff_eq, decide_eq_true_eq]
  generalize a.data.toList = l
  rcases (show k = 1 ∨ k = 2 ∨ k = 3 by omega) with rfl | rfl | rfl
  · show l = [112, 97, 115, 115] ↔ _
    unfold statV
    constructor
    · intro h; rw [if_pos h]
    · intro h
      by_cases g : l = [112, 97, 115, 115]
      · exact g
      · rw [if_neg g] at h; (repeat' split at h) <;> cases h
  · show l = [102, 97, 105, 108] ↔ _
    unfold statV
    constructor
    · rintro rfl; rfl
    · intro h
      by_cases g : l = [102, 97, 105, 108]
      · exact g
      · rw [if_neg g] at h; (repeat' split at h) <;> cases h
  · show l = [115, 107, 105, 112] ↔ _
    unfold statV
    constructor
    · rintro rfl; rfl
    · intro h
      by_cases g : l = [115, 107, 105, 112]
      · exact g
      · rw [if_neg g] at h; (repeat' split at h) <;> cases h

def OneRel (w5 : World) (b : Nat) (nm : ByteArray) (n sv : Nat) (f : Nat) (t8 : Value) (wr : World) : Prop :=
  ∃ k : Nat, t8 = .int .i64 (k : Nat) ∧ 1 ≤ k ∧ k ≤ 4 ∧ f = 4 - k ∧ wr.heap[b]? = some (.cells #[.string nm, .int .i64 ((stTo sv k : Nat) : Int), .int .i64 ((n : Nat) : Int)] 41 (0, 0)) ∧ Below b w5 wr

set_option maxRecDepth 100000 in
set_option maxHeartbeats 3200000 in
theorem one_any (s : ByteArray) (hsz : s.size ≤ 1000000) (w : World) : Calls Tryz.prog 30 #[.string s] w (RsPost (oneF s.data.toList) w) := by
  have HSZ := Lib.hid (Lib.size_eq s)
  go_enter Tryz.func30, Tryz.ntmps30
  obtain ⟨W1, hW1⟩ : ∃ W, w.alloc (.cells #[.string ⟨#[]⟩, .int .i64 0, .int .i64 0] 41 (0, 0)) = W := ⟨_, rfl⟩
  have HB1 : Hid (Below w.heap.size w W1) := by unfold Hid; rw [← hW1]; exact (Below.refl _ _).alloc (Nat.le_refl _) _
  have HG1 : Hid (W1.heap[w.heap.size]? = some (.cells #[.string ⟨#[]⟩, .int .i64 0, .int .i64 0] 41 (0, 0))) := by unfold Hid; rw [← hW1]; exact hp_new rfl
  have WD := Lib.hid (rwords_any s hsz W1)
  go_upto_region 1 with fail
  clear hW1
  go_wp2_with fail
  refine WD.out.mono ?_
  rintro e w2 ⟨wv, ss, rfl, hrow, hpc, hb⟩
  have HB2 := Lib.hid (HB1.out.trans (hb.mono HB1.out.size))
  have hs1 : w.heap.size < W1.heap.size := (Array.getElem?_eq_some_iff.1 HG1.out).1
  have HG2 : Hid (w2.heap[w.heap.size]? = some (.cells #[.string ⟨#[]⟩, .int .i64 0, .int .i64 0] 41 (0, 0))) := (hb.block _ hs1).trans HG1.out
  have HAT : Hid (StrsAt w2 wv ss) := StrsAt.of_row hrow
  obtain ⟨ao, cap, rfl⟩ := ownsRow_form hrow
  have HPC := Lib.hid hpc
  clear hb hrow hpc WD
  by_cases hn : ss.length = 3
  · obtain ⟨a, b, c, rfl⟩ : ∃ a b c, ss = [a, b, c] := by
      rcases ss with _ | ⟨a, _ | ⟨b, _ | ⟨c, _ | ⟨d, r⟩⟩⟩⟩
      · cases hn
      · cases hn
      · cases hn
      · exact ⟨a, b, c, rfl⟩
      · simp at hn
    obtain ⟨rb, roff, rfl, hrb, _⟩ := HAT.out.at_ (k := 0) (by simp)
    have HON := Lib.hid (one_three (l := s.data.toList) HPC.out.symm)
    have hcs : c.size ≤ s.size := by
      rw [Lib.size_eq, Lib.size_eq]
      exact pcs_le 32 _ _ (by rw [← HPC.out]; simp)
    clear HPC hn
    have PC : Hid (∀ W, Below w2.heap.size w2 W → W.cell? ⟨rb, roff + 0, none⟩ = some (.string a) ∧ W.cell? ⟨rb, roff + 1, none⟩ = some (.string b) ∧ W.cell? ⟨rb, roff + 2, none⟩ = some (.string c)) := fun W hW =>
      ⟨((HAT.out.below hW).litR (k := 0) (show 0 < 3 by decide)).2, ((HAT.out.below hW).litR (k := 1) (show 1 < 3 by decide)).2, ((HAT.out.below hW).litR (k := 2) (show 2 < 3 by decide)).2⟩
    obtain ⟨pc0, pc1, pc2⟩ := PC.out w2 (Below.refl _ _)
    change w2.cell? ⟨rb, roff, none⟩ = _ at pc0
    have hs2 : w.heap.size < w2.heap.size := (Array.getElem?_eq_some_iff.1 HG2.out).1
    have HG : Hid (∀ W, Below w2.heap.size w2 W → W.heap[w.heap.size]? = some (.cells #[.string ⟨#[]⟩, .int .i64 0, .int .i64 0] 41 (0, 0))) := fun W hW => (hW.block _ hs2).trans HG2.out
    have IP := Lib.hid (ispath_any b w2)
    generalize hpf : decide (partsF b.data.toList = 0) = pf at *
    cases pf with
    | false =>
      have HX : Hid (oneF s.data.toList = (5, ([], 0, 0))) := by unfold Hid; rw [HON.out, if_pos (.inr (.inl (of_decide_eq_false hpf)))]
      clear HON hpf
      as_aux_lemma =>
      go_wp2_with fail
      refine IP.out.mono ?_
      rintro e w3 ⟨rfl, hb⟩
      have HB3 := Lib.hid (HB2.out.trans (hb.mono HB2.out.size))
      have HGW := Lib.hid (HG.out w3 hb)
      clear hb IP
      go_wp2_with (refine wpList_store_row rfl 41 _ _ rfl w.heap.size rfl 41 _ HGW.out (.agg #[.string ⟨#[]⟩, .int .i64 0, .int .i64 0]) rfl (by kernel_rfl) rfl rfl ?_)
      intro w7 hw7
      have HW7 := Lib.hid hw7
      clear hw7
      go_wp2_with fail
      exact bodyPost_ret (results_row_tmp rfl _ _ w.heap.size 41 _ (0, 0) _ rfl HW7.out.at_ Tryz.underlying41 rfl (by kernel_rfl)) rfl ⟨⟨#[]⟩, by rw [HX.out]; rfl, by rw [HX.out], HB3.out.trans (HW7.out.below (Nat.le_refl _))⟩
    | true =>
      have hp0 : partsF b.data.toList = 0 := of_decide_eq_true hpf
      have HPF := Lib.hid hp0
      clear hpf hp0
      go_wp2_with fail
      refine IP.out.mono ?_
      rintro e w3 ⟨rfl, hb⟩
      have HB3 := Lib.hid (HB2.out.trans (hb.mono HB2.out.size))
      have HB23 := Lib.hid hb
      clear hb IP pc0 pc1 pc2
      obtain ⟨pc0, pc1, pc2⟩ := PC.out w3 HB23.out
      change w3.cell? ⟨rb, roff, none⟩ = _ at pc0
      have NB := Lib.hid (rnumber_any c (by omega) w3)
      have hnr : numR c.data.toList ≤ 1125899906842625 := by
        unfold numR
        split
        · exact capF_le _
        · omega
      generalize hnv : numR c.data.toList = nv at *
      generalize hdg : digB c.data.toList = dg at *
      go_wp2_with fail
      refine NB.out.mono ?_
      rintro e w4 ⟨rfl, rfl⟩
      clear NB
      obtain ⟨W5, hW5⟩ : ∃ W, w4.alloc (.cells #[.string b, .int .i64 0, .int .i64 ((nv : Nat) : Int)] 41 (0, 0)) = W := ⟨_, rfl⟩
      have HK5 : Hid (W5.heap[w4.heap.size]? = some (.cells #[.string b, .int .i64 0, .int .i64 ((nv : Nat) : Int)] 41 (0, 0))) := by unfold Hid; rw [← hW5]; exact hp_new rfl
      have HB45 : Hid (Below w4.heap.size w4 W5) := by unfold Hid; rw [← hW5]; exact (Below.refl _ _).alloc (Nat.le_refl _) _
      have hsv := statV_le a.data.toList
      have HWD := Lib.hid (fun k h1 h3 => stat_word a (k := k) h1 h3)
      generalize statV a.data.toList = sv at *
      have HB25 : Hid (Below w2.heap.size w2 W5) := HB23.out.trans (HB45.out.mono HB23.out.size)
      have HB5 : Hid (Below w.heap.size w W5) := HB3.out.trans (HB45.out.mono HB3.out.size)
      have hs24 := HB23.out.size
      have hb5s : w4.heap.size < W5.heap.size := (Array.getElem?_eq_some_iff.1 HK5.out).1
      go_upto_region 6 with fail
      obtain ⟨bk, hbk⟩ : ∃ bk, w4.heap.size = bk := ⟨_, rfl⟩
      rw [hbk] at HK5 hs24 hb5s ⊢
      clear hW5 pc0 pc1 pc2 HB45 HB23 HB3 hbk
      go_wp2_with fail
      go_loopg [8] 3 (OneRel W5 bk b nv sv)
      case atStart => exact ⟨1, rfl, Nat.le_refl _, by decide, rfl, by rw [HK5.out]; unfold stTo; split <;> (try rfl); rw [show sv = 0 by omega]; rfl, Below.refl _ _⟩
      case round =>
        obtain ⟨k, rfl, hk1, hk4, rfl, hkb, hbel⟩ := hrel
        have HKB := Lib.hid hkb
        have HBE := Lib.hid hbel
        have HB2R : Hid (Below w2.heap.size w2 wr) := HB25.out.trans (hbel.mono hs24)
        clear hkb hbel
        by_cases h3 : k ≤ 3
        · have h3i : (k : Int) ≤ 3 := by omega
          obtain ⟨pc0, _, _⟩ := PC.out wr HB2R.out
          change wr.cell? ⟨rb, roff, none⟩ = _ at pc0
          have WQ := fun nq => Lib.hid (Calls.quiet_of_same (rword_any (k : Int) (wr.drewN nq)))
          have hwd := HWD.out k hk1 h3
          generalize wordB (k : Int) = wb at *
          by_cases he : sv = k
          · rw [decide_eq_true he] at hwd
            have HST : Hid (((stTo sv (k + 1) : Nat) : Int) = (k : Int)) := by unfold Hid stTo; rw [if_pos (by omega), he]
            clear he
            go_upto_region 9 with fail
            go_quiet ((go_at_call 38; with_reducible exact (WQ _).out))
            rename_i nq
            obtain ⟨wq, hwq⟩ : ∃ W, wr.drewN nq = W := ⟨_, rfl⟩
            have HKQ : Hid (wq.heap[bk]? = some (.cells #[.string b, .int .i64 ((stTo sv k : Nat) : Int), .int .i64 ((nv : Nat) : Int)] 41 (0, 0))) := by unfold Hid; rw [← hwq]; exact HKB.out
            have HBQ : Hid (Below bk W5 wq) := by unfold Hid; rw [← hwq]; exact ⟨HBE.out.os, HBE.out.tape, HBE.out.output, HBE.out.size, HBE.out.block⟩
            rw [hwq]
            clear hwq WQ hwd pc0 HKB HBE HB2R
            have c1 : wq.cell? ⟨bk, 1, none⟩ = some (.int .i64 ((stTo sv k : Nat) : Int)) := cell_of_blk HKQ.out 1
            have f1 : wq.frozen? ⟨bk, 1, none⟩ = false := free_of_blk HKQ.out 1
            have HWR := Lib.hid (wrote_setCell HKQ.out 1 (.int .i64 (k : Nat)))
            as_aux_lemma =>
            go_wp2_with fail
            go_roundg (4 - (k + 1))
            case measure => omega
            case rel => exact ⟨k + 1, by go_num, by omega, by omega, rfl, by rw [HST.out]; exact HWR.out.at_, HBQ.out.trans (HWR.out.below (Nat.le_refl _))⟩
          · rw [decide_eq_false he] at hwd
            have HST : Hid (stTo sv (k + 1) = stTo sv k) := by
              unfold Hid stTo
              by_cases g : sv < k
              · rw [if_pos g, if_pos (by omega)]
              · rw [if_neg g, if_neg (by omega)]
            clear he
            as_aux_lemma =>
            go_upto_region 9 with fail
            go_quiet ((go_at_call 38; with_reducible exact (WQ _).out))
            go_wp2_with fail
            go_roundg (4 - (k + 1))
            case measure => omega
            case rel => exact ⟨k + 1, by go_num, by omega, by omega, rfl, by rw [HST.out]; exact HKB.out, ⟨HBE.out.os, HBE.out.tape, HBE.out.output, HBE.out.size, HBE.out.block⟩⟩
        · have h3i : ¬ (k : Int) ≤ 3 := by omega
          have HST : Hid (stTo sv k = sv) := by unfold Hid stTo; rw [if_pos (by omega)]
          rw [HST.out] at HKB
          have HGW := Lib.hid (HG.out wr HB2R.out)
          have HBF : Hid (Below w.heap.size w wr) := HB5.out.trans (HBE.out.mono (by omega))
          have c0 : wr.cell? ⟨bk, 0, none⟩ = some (.string b) := cell_of_blk HKB.out 0
          have c1 : wr.cell? ⟨bk, 1, none⟩ = some (.int .i64 ((sv : Nat) : Int)) := cell_of_blk HKB.out 1
          have c2 : wr.cell? ⟨bk, 2, none⟩ = some (.int .i64 ((nv : Nat) : Int)) := cell_of_blk HKB.out 2
          clear HBE HB2R HB25 HB5 HG PC HWD HST HK5 HG2 HAT HKB
          by_cases hbad : dg = false ∨ sv = 0
          · have HX : Hid (oneF s.data.toList = (5, ([], 0, 0))) := by
              unfold Hid; rw [HON.out, if_pos]
              rcases hbad with h | h
              · exact .inr (.inr h)
              · exact .inl h
            have FIN : Hid (∀ w7, Wrote w.heap.size (.cells #[.string ⟨#[]⟩, .int .i64 0, .int .i64 0] 41 (0, 0)) wr w7 → Below w.heap.size w w7) := fun w7 hw7 => HBF.out.trans (hw7.below (Nat.le_refl _))
            cases dg with
            | false =>
              clear hbad HON hnv hdg
              as_aux_lemma =>
              go_wp2_with (refine wpList_store_row rfl 41 _ _ rfl w.heap.size rfl 41 _ HGW.out (.agg #[.string ⟨#[]⟩, .int .i64 0, .int .i64 0]) rfl (by kernel_rfl) rfl rfl ?_)
              intro w7 hw7
              have HW7 := Lib.hid hw7
              clear hw7
              go_wp2_with fail
              exact bodyPost_ret (results_row_tmp rfl _ _ w.heap.size 41 _ (0, 0) _ rfl HW7.out.at_ Tryz.underlying41 rfl (by kernel_rfl)) rfl ⟨⟨#[]⟩, by rw [HX.out]; rfl, by rw [HX.out], FIN.out _ HW7.out⟩
            | true =>
              have hs0 : sv = 0 := hbad.resolve_left (by decide)
              have t0 : (((sv : Nat) : Int) == 0) = true := by rw [hs0]; rfl
              clear hbad HON hnv hdg hs0
              as_aux_lemma =>
              go_wp2_with (refine wpList_store_row rfl 41 _ _ rfl w.heap.size rfl 41 _ HGW.out (.agg #[.string ⟨#[]⟩, .int .i64 0, .int .i64 0]) rfl (by kernel_rfl) rfl rfl ?_)
              intro w7 hw7
              have HW7 := Lib.hid hw7
              clear hw7
              go_wp2_with fail
              exact bodyPost_ret (results_row_tmp rfl _ _ w.heap.size 41 _ (0, 0) _ rfl HW7.out.at_ Tryz.underlying41 rfl (by kernel_rfl)) rfl ⟨⟨#[]⟩, by rw [HX.out]; rfl, by rw [HX.out], FIN.out _ HW7.out⟩
          · obtain rfl : dg = true := by
              cases dg with
              | true => rfl
              | false => exact absurd (.inl rfl) hbad
            have hs0 : sv ≠ 0 := fun h => hbad (.inr h)
            have t0 : (((sv : Nat) : Int) == 0) = false := by rw [beq_eq_false_iff_ne]; omega
            have HN2 := Lib.hid HON.out
            rw [if_neg (fun h => h.elim (fun h => hs0 h) (fun h => h.elim (fun h => h HPF.out) (fun h => Bool.noConfusion h)))] at HN2
            have hcap : nv = capF c.data.toList := by rw [← hnv]; unfold numR; rw [hdg]; rfl
            by_cases hbig : 1125899906842624 < numV c.data.toList
            · rw [if_pos hbig] at HN2
              have hb2 : (1125899906842624 : Int) < (nv : Int) := by
                have := of_decide_eq_true ((capF_big c.data.toList).trans (decide_eq_true hbig))
                omega
              clear hbad HON hnv hdg hs0 hbig hcap
              as_aux_lemma =>
              go_wp2_with (refine wpList_store_row rfl 41 _ _ rfl w.heap.size rfl 41 _ HGW.out (.agg #[.string ⟨#[]⟩, .int .i64 0, .int .i64 0]) rfl (by kernel_rfl) rfl rfl ?_)
              intro w7 hw7
              have HW7 := Lib.hid hw7
              clear hw7
              go_wp2_with fail
              exact bodyPost_ret (results_row_tmp rfl _ _ w.heap.size 41 _ (0, 0) _ rfl HW7.out.at_ Tryz.underlying41 rfl (by kernel_rfl)) rfl ⟨⟨#[]⟩, by rw [HN2.out]; rfl, by rw [HN2.out], HBF.out.trans (HW7.out.below (Nat.le_refl _))⟩
            · rw [if_neg hbig] at HN2
              have hnn : nv = numV c.data.toList := by rw [hcap]; exact capF_small hbig
              have hb2 : ¬ (1125899906842624 : Int) < (nv : Int) := by omega
              rw [← hnn] at HN2
              clear hbad HON hnv hdg hs0 hbig hcap hnn
              as_aux_lemma =>
              go_wp2_with (refine wpList_store_row rfl 41 _ _ rfl w.heap.size rfl 41 _ HGW.out (.agg #[.string b, .int .i64 ((sv : Nat) : Int), .int .i64 ((nv : Nat) : Int)]) rfl (by kernel_rfl) rfl rfl ?_)
              intro w7 hw7
              have HW7 := Lib.hid hw7
              clear hw7
              go_wp2_with fail
              exact bodyPost_ret (results_row_tmp rfl _ _ w.heap.size 41 _ (0, 0) _ rfl HW7.out.at_ Tryz.underlying41 rfl (by kernel_rfl)) rfl ⟨b, by rw [HN2.out]; rfl, by rw [HN2.out], HBF.out.trans (HW7.out.below (Nat.le_refl _))⟩
  · have HX : Hid (oneF s.data.toList = (5, ([], 0, 0))) := one_len (by rw [← HPC.out, List.length_map]; exact hn)
    have hni : ((ss.length : Int) != 3) = true := by rw [bne_iff_ne]; omega
    clear hn HPC
    as_aux_lemma =>
    go_wp2_with (refine wpList_store_row rfl 41 _ _ rfl w.heap.size rfl 41 _ HG2.out (.agg #[.string ⟨#[]⟩, .int .i64 0, .int .i64 0]) rfl (by kernel_rfl) rfl rfl ?_)
    intro w7 hw7
    have HW7 := Lib.hid hw7
    clear hw7
    go_wp2_with fail
    exact bodyPost_ret (results_row_tmp rfl _ _ w.heap.size 41 _ (0, 0) _ rfl HW7.out.at_ Tryz.underlying41 rfl (by kernel_rfl)) rfl ⟨⟨#[]⟩, by rw [HX.out]; rfl, by rw [HX.out], HB2.out.trans (HW7.out.below (Nat.le_refl _))⟩
end Go.Proofs.YtngbjnjkcniabaaGreatDoor
