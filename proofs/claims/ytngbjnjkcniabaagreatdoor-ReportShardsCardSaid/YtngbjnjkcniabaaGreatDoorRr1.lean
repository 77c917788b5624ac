/- The walks over the reference's words, end, Has, Word, number, Same. -/
import Derived.Test.YtngbjnjkcniabaaGreatDoorRp7
import Derived.Test.YtngbjnjkcniabaaGreatDoorIdent5
namespace Go.Proofs.YtngbjnjkcniabaaGreatDoor
open Go.RowKit

def RWPost (l : List UInt8) (w : World) (e : Ending) (w' : World) : Prop :=
  ∃ (v : Value) (ss : List ByteArray), e = .returned v ∧ w'.ownsRow w.heap.size 9 1 v ss.length (ss.map Value.string) ∧ ss.map (·.data.toList) = pcs 32 l ∧ Below w.heap.size w w'
def RWRel (w1 : World) (l : List UInt8) (f : Nat) (t3 t4 t5 : Value) (wr : World) : Prop :=
  ∃ (k fr : Nat) (ss : List ByteArray), t5 = .int .i64 (k : Nat) ∧ t4 = .int .i64 (fr : Nat) ∧ fr ≤ k ∧ ss.length ≤ k ∧ f = l.length + 1 - k ∧
    ((k ≤ l.length ∧ pcs 32 l = ss.map (·.data.toList) ++ glue ((l.drop fr).take (k - fr)) (pcs 32 (l.drop k))) ∨ (k = l.length + 1 ∧ pcs 32 l = ss.map (·.data.toList))) ∧
    wr.ownsRow w1.heap.size 9 1 t3 ss.length (ss.map Value.string) ∧ Below w1.heap.size w1 wr

set_option maxRecDepth 100000 in
set_option maxHeartbeats 1600000 in
theorem rwords_any (s : ByteArray) (hs : s.size ≤ 1000000) (w : World) : Calls Tryz.prog 52 #[.string s] w (RWPost s.data.toList w) := by
  have HS := Lib.hid (Lib.size_eq s)
  obtain ⟨i9, hi9⟩ := Tryz.info9'
  have HI := Lib.hid hi9
  clear hi9
  go_enter Tryz.func52, Tryz.ntmps52
  go_wp2_with fail
  go_loopg [3, 4, 5] (s.data.toList.length + 1) (RWRel w s.data.toList)
  case atStart => exact ⟨0, 0, [], rfl, rfl, Nat.le_refl _, Nat.le_refl _, rfl, .inl ⟨Nat.zero_le _, (by simp [glue_nil])⟩, World.ownsRow_nil _ _ _ _, Below.refl _ _⟩
  case round =>
    obtain ⟨k, fr, ss, rfl, rfl, hfr, hss, rfl, hpc, hrow, hbel⟩ := hrel
    obtain ⟨ao, cap, rfl⟩ := ownsRow_form hrow
    have HR := Lib.hid hrow
    have HB := Lib.hid hbel
    have HP := Lib.hid hpc
    clear hrow hbel hpc
    by_cases hle : k ≤ s.size
    · have hli : (k : Int) ≤ (s.size : Int) := by omega
      have hex : (s.extract fr k).data.toList = (s.data.toList.drop fr).take (k - fr) := by rw [Lib.extract_eq]
      have HEX := Lib.hid hex
      have hpk : pcs 32 s.data.toList = ss.map (·.data.toList) ++ glue ((s.data.toList.drop fr).take (k - fr)) (pcs 32 (s.data.toList.drop k)) := by
        rcases HP.out with h | h
        · exact h.2
        · have := HS.out; omega
      have HPK := Lib.hid hpk
      clear hex hpk
      by_cases hend : k = s.size
      · subst hend
        have HF : Hid (pcs 32 s.data.toList = (ss ++ [s.extract fr s.size]).map (·.data.toList)) := by
          unfold Hid
          rw [HPK.out, List.drop_of_length_le (i := s.size) (l := s.data.toList) (by rw [← HS.out]; omega), glue_end, List.map_append, List.map_cons, List.map_nil, HEX.out]
        clear hle
        as_aux_lemma =>
        go_wp2_with (at_builtin; refine wpList_append2 rfl _ _ 36 rfl w.heap.size 9 i9 (.string ByteArray.empty) 1 16 Tryz.underlying36 HI.out rfl (by decide) _ _ _ rfl (HR.out.alloc _) ⟨wr.heap.size, 0, none⟩ 1 1 [.string (s.extract fr s.size)] rfl rfl (cells_newAt rfl _ 9 (0, 0)) rfl (by unfold maxLen; omega) (by omega) (by have := HB.out.size; simp; omega) ?_)
        intro v' w2 hown hgrow hwh
        obtain ⟨ao', cap', rfl⟩ := ownsRow_form hown
        have HOWN := Lib.hid hown
        have HBG := Lib.hid ((HB.out.alloc HB.out.size _).grown hgrow (by have := HB.out.size; simp; omega) (fun j hj => (HR.out.lt j hj).1))
        clear hown hgrow hwh
        go_wp2_with fail
        go_roundg (s.data.toList.length + 1 - (s.size + 1))
        case measure => have := HS.out; omega
        case rel =>
          refine ⟨s.size + 1, s.size + 1, ss ++ [s.extract fr s.size], by go_num, by go_num, Nat.le_refl _, by simp; omega, rfl, .inr ⟨by have := HS.out; omega, HF.out⟩, ?_, HBG.out⟩
          have := HOWN.out
          simpa using this
      · have hlt : k < s.size := by omega
        have te : ((k : Int) == (s.size : Int)) = false := by rw [beq_eq_false_iff_ne]; omega
        have hat := str_at (s := s) rfl k hlt
        have hdr : s.data.toList.drop k = s.data.toList.getD k 0 :: s.data.toList.drop (k + 1) := by
          rw [List.drop_eq_getElem_cons (by rw [← HS.out]; exact hlt)]
          rw [List.getD, List.getElem?_eq_getElem (by rw [← HS.out]; exact hlt)]
          rfl
        have htk : (s.data.toList.drop fr).take (k + 1 - fr) = (s.data.toList.drop fr).take (k - fr) ++ [s.data.toList.getD k 0] := by
          rw [show k + 1 - fr = (k - fr) + 1 by omega, List.take_add_one, List.getElem?_drop, show fr + (k - fr) = k by omega]
          simp [List.getD, List.getElem?_eq_getElem (show k < s.data.toList.length by rw [← HS.out]; exact hlt)]
        have HDR := Lib.hid hdr
        have HTK := Lib.hid htk
        clear hdr htk hend
        generalize s.data.toList.getD k 0 = c at *
        by_cases hc : c = 32
        · have tc : ((c.toNat : Int) == 32) = true := by subst hc; rfl
          have HF : Hid (pcs 32 s.data.toList = (ss ++ [s.extract fr k]).map (·.data.toList) ++ glue ((s.data.toList.drop (k + 1)).take (k + 1 - (k + 1))) (pcs 32 (s.data.toList.drop (k + 1)))) := by
            unfold Hid
            rw [HPK.out, HDR.out, hc, glue_hit, List.map_append, List.map_cons, List.map_nil, HEX.out, Nat.sub_self, List.take_zero]
            simp
          clear hc
          as_aux_lemma =>
          go_wp2_with (at_builtin; refine wpList_append2 rfl _ _ 36 rfl w.heap.size 9 i9 (.string ByteArray.empty) 1 16 Tryz.underlying36 HI.out rfl (by decide) _ _ _ rfl (HR.out.alloc _) ⟨wr.heap.size, 0, none⟩ 1 1 [.string (s.extract fr k)] rfl rfl (cells_newAt rfl _ 9 (0, 0)) rfl (by unfold maxLen; omega) (by omega) (by have := HB.out.size; simp; omega) ?_)
          intro v' w2 hown hgrow hwh
          obtain ⟨ao', cap', rfl⟩ := ownsRow_form hown
          have HOWN := Lib.hid hown
          have HBG := Lib.hid ((HB.out.alloc HB.out.size _).grown hgrow (by have := HB.out.size; simp; omega) (fun j hj => (HR.out.lt j hj).1))
          clear hown hgrow hwh
          go_wp2_with fail
          go_roundg (s.data.toList.length + 1 - (k + 1))
          case measure => have := HS.out; omega
          case rel =>
            refine ⟨k + 1, k + 1, ss ++ [s.extract fr k], by go_num, by go_num, Nat.le_refl _, by simp; omega, rfl, .inl ⟨by have := HS.out; omega, HF.out⟩, ?_, HBG.out⟩
            have := HOWN.out
            simpa using this
        · have tc : ((c.toNat : Int) == 32) = false := by
            rw [beq_eq_false_iff_ne]
            intro e
            exact hc (by have : c.toNat = 32 := by omega
                         have h := UInt8.toNat_inj (a := c) (b := 32)
                         exact h.1 this)
          have HF : Hid (pcs 32 s.data.toList = ss.map (·.data.toList) ++ glue ((s.data.toList.drop fr).take (k + 1 - fr)) (pcs 32 (s.data.toList.drop (k + 1)))) := by
            unfold Hid
            rw [HPK.out, HDR.out, glue_miss hc, HTK.out]
          clear hc
          as_aux_lemma =>
          go_wp2_with fail
          go_roundg (s.data.toList.length + 1 - (k + 1))
          case measure => have := HS.out; omega
          case rel => exact ⟨k + 1, fr, ss, by go_num, rfl, by omega, by omega, rfl, .inl ⟨by have := HS.out; omega, HF.out⟩, HR.out, HB.out⟩
    · have hli : ¬ (k : Int) ≤ (s.size : Int) := by omega
      have HF : Hid (ss.map (·.data.toList) = pcs 32 s.data.toList) := by
        rcases HP.out with h | h
        · have := HS.out; omega
        · exact h.2.symm
      go_wp2_with fail
      go_ret
      exact ⟨_, ss, rfl, HR.out, HF.out, HB.out⟩

/-- the place of the first line feed from a place on, or -1 -/
def endX (l : List UInt8) (at_ : Nat) : Int := if Lib.index (l.drop at_) [10] = -1 then -1 else Lib.index (l.drop at_) [10] + at_
theorem endX_hit {l : List UInt8} {k : Nat} (hk : k < l.length) (h : l.getD k 0 = 10) : endX l k = (k : Int) := by
  have e : l.drop k = 10 :: l.drop (k + 1) := by
    rw [List.drop_eq_getElem_cons hk]
    rw [List.getD, List.getElem?_eq_getElem hk] at h
    rw [show l[k] = 10 from h]
  unfold endX
  rw [e, idx_eq, if_neg (by decide)]
  omega
theorem endX_miss {l : List UInt8} {k : Nat} (hk : k < l.length) (h : l.getD k 0 ≠ 10) : endX l k = endX l (k + 1) := by
  have e : l.drop k = l.getD k 0 :: l.drop (k + 1) := by
    rw [List.drop_eq_getElem_cons hk, List.getD, List.getElem?_eq_getElem hk]
    rfl
  unfold endX
  rw [e, idx_ne h]
  have hg := Lib.index_ge (l.drop (k + 1)) [10]
  generalize Lib.index (l.drop (k + 1)) [10] = x at *
  by_cases hx : x = -1
  · simp [hx]
  · have hb : (x == -1) = false := by rw [beq_eq_false_iff_ne]; exact hx
    rw [hb, if_neg hx]
    simp only [Bool.false_eq_true, if_false]
    rw [if_neg (by omega)]
    omega
theorem endX_end {l : List UInt8} {k : Nat} (hk : ¬ k < l.length) : endX l k = -1 := by
  unfold endX
  rw [List.drop_of_length_le (by omega), idx_nil, if_pos rfl]
def REndRel (w1 : World) (l : List UInt8) (x : Int) (f : Nat) (t1 : Value) (wr : World) : Prop :=
  ∃ k : Nat, t1 = .int .i64 (k : Nat) ∧ k ≤ l.length ∧ f = l.length - k ∧ endX l k = x ∧ wr = w1

set_option maxRecDepth 100000 in
set_option maxHeartbeats 1600000 in
theorem end_any (s : ByteArray) (at_ : Nat) (ha : at_ ≤ s.size) (hs : s.size ≤ 9000000) (w : World) : Calls Tryz.prog 29 #[.string s, .int .i64 (at_ : Nat)] w fun e w' => e = .returned (.int .i64 (endX s.data.toList at_)) ∧ w' = w := by
  have HS := Lib.hid (Lib.size_eq s)
  obtain ⟨x, hx0⟩ : ∃ x, endX s.data.toList at_ = x := ⟨_, rfl⟩
  have HX0 := Lib.hid hx0
  rw [hx0]
  clear hx0
  go_enter Tryz.func29, Tryz.ntmps29
  go_wp2_with fail
  go_loopg [1] (s.data.toList.length - at_) (REndRel w s.data.toList x)
  case atStart => exact ⟨at_, rfl, by rw [← HS.out]; exact ha, rfl, HX0.out, rfl⟩
  case round =>
    obtain ⟨k, rfl, hk, rfl, hx, rfl⟩ := hrel
    rw [← HS.out] at hk
    have HX := Lib.hid hx
    clear hx
    by_cases hlt : k < s.size
    · have hat := str_at (s := s) rfl k hlt
      have hii : (k : Int) < (s.size : Int) := by omega
      have HH := Lib.hid (endX_hit (l := s.data.toList) (k := k) (by rw [← HS.out]; exact hlt))
      have HM := Lib.hid (endX_miss (l := s.data.toList) (k := k) (by rw [← HS.out]; exact hlt))
      generalize s.data.toList.getD k 0 = c at *
      by_cases hc : c = 10
      · have tc : ((c.toNat : Int) == 10) = true := by subst hc; rfl
        have HR : Hid (x = (k : Int)) := by unfold Hid; rw [← HX.out]; exact HH.out hc
        clear hc
        as_aux_lemma =>
        go_wp2_with fail
        go_ret
        exact ⟨by rw [HR.out]; rfl, rfl⟩
      · have tc : ((c.toNat : Int) == 10) = false := by
          rw [beq_eq_false_iff_ne]
          intro e
          exact hc (UInt8.toNat_inj.1 (by show c.toNat = 10; omega))
        have HR : Hid (endX s.data.toList (k + 1) = x) := by unfold Hid; rw [← HX.out]; exact (HM.out hc).symm
        clear hc
        as_aux_lemma =>
        go_wp2_with fail
        go_roundg (s.data.toList.length - (k + 1))
        case measure => have := HS.out; omega
        case rel => exact ⟨k + 1, by go_num, by have := HS.out; omega, rfl, HR.out, rfl⟩
    · have hii : ¬ (k : Int) < (s.size : Int) := by omega
      have HR : Hid (x = -1) := by unfold Hid; rw [← HX.out]; exact endX_end (by rw [← HS.out]; exact hlt)
      go_wp2_with fail
      go_ret
      exact ⟨by rw [HR.out]; rfl, rfl⟩

def hasN (rs : List Qu) (k : Nat) (nm : ByteArray) : Bool := (rs.take k).any fun q => decide (q.name = nm)
def RHasRel (w1 : World) (rs : List Qu) (nm : ByteArray) (f : Nat) (t5 : Value) (wr : World) : Prop :=
  ∃ k : Nat, t5 = .int .i64 (k : Nat) ∧ k ≤ rs.length ∧ f = rs.length - k ∧ (∀ j, (hj : j < k) → (hl : j < rs.length) → rs[j].name ≠ nm) ∧ wr = w1

theorem bytes_inj {x y : ByteArray} (h : x.data.toList = y.data.toList) : x = y := by cases x; cases y; simp at h; simp [h]
theorem tlB_eq (x y : ByteArray) : (x.toList == y.toList) = decide (x = y) := by
  rw [Bool.eq_iff_iff, beq_iff_eq, decide_eq_true_eq]
  exact ⟨fun h => by rw [Lib.toList_data, Lib.toList_data] at h; exact bytes_inj h, fun h => by rw [h]⟩
theorem has_yes {rs : List Qu} {k : Nat} {nm : ByteArray} (hk : k < rs.length) (h : rs[k].name = nm) : decide (nm.data.toList ∈ rs.map (·.name.data.toList)) = true :=
  decide_eq_true (List.mem_map.2 ⟨rs[k], List.getElem_mem hk, by rw [h]⟩)
theorem has_no {rs : List Qu} {nm : ByteArray} (h : ∀ j, (hl : j < rs.length) → rs[j].name ≠ nm) : decide (nm.data.toList ∈ rs.map (·.name.data.toList)) = false := by
  refine decide_eq_false fun hm => ?_
  obtain ⟨q, hq, e⟩ := List.mem_map.1 hm
  obtain ⟨j, hj, rfl⟩ := List.getElem_of_mem hq
  refine h j hj ?_
  generalize rs[j].name = a at e ⊢
  cases a; cases nm; simp at e; simp [e]

set_option maxRecDepth 100000 in
set_option maxHeartbeats 1600000 in
theorem has_any (v : Value) (rs : List Qu) (nm : ByteArray) (hl : rs.length ≤ 1000000) (w : World) (h : QuAt w v rs) :
    Calls Tryz.prog 31 #[v, .string nm] w fun e w' => e = .returned (.bool (decide (nm.data.toList ∈ rs.map (·.name.data.toList)))) ∧ w' = w := by
  obtain ⟨ao, cap, rfl⟩ := h.form
  have H := Lib.hid h
  clear h
  have HY := Lib.hid (fun k (hk : k < rs.length) => has_yes (rs := rs) (nm := nm) hk)
  have HN := Lib.hid (has_no (rs := rs) (nm := nm))
  generalize decide (nm.data.toList ∈ rs.map (·.name.data.toList)) = r at *
  go_enter Tryz.func31, Tryz.ntmps31
  go_wp2_with fail
  go_loopg [5] rs.length (RHasRel w rs nm)
  case atStart => exact ⟨0, rfl, Nat.zero_le _, rfl, fun j hj => by omega, rfl⟩
  case round =>
    obtain ⟨k, rfl, hk, rfl, hno, rfl⟩ := hrel
    have HNO := Lib.hid hno
    clear hno
    by_cases hlt : k < rs.length
    · obtain ⟨b, off, rfl, hbl, c0, _, _⟩ := QuAt.at3 H.out hlt
      have hii : (k : Int) < (rs.length : Int) := by omega
      have HYK := Lib.hid (HY.out k hlt)
      have HNK : Hid (rs[k].name ≠ nm → ∀ j, (hj : j < k + 1) → (hl : j < rs.length) → rs[j].name ≠ nm) := fun h j hj hl => by
        by_cases hjk : j = k
        · subst hjk; exact h
        · exact HNO.out j (by omega) hl
      generalize rs[k] = q at *
      by_cases he : q.name = nm
      · have te : (q.name.toList == nm.toList) = true := by rw [tlB_eq]; exact decide_eq_true he
        have HR : Hid (r = true) := HYK.out he
        clear HYK HNK
        subst he
        as_aux_lemma =>
        go_wp2_with fail
        go_ret
        exact ⟨by rw [HR.out]; rfl, rfl⟩
      · have te : (q.name.toList == nm.toList) = false := by rw [tlB_eq]; exact decide_eq_false he
        have HR := Lib.hid (HNK.out he)
        clear HYK HNK he
        as_aux_lemma =>
        go_wp2_with fail
        go_roundg (rs.length - (k + 1))
        case measure => omega
        case rel => exact ⟨k + 1, by go_num, by omega, rfl, HR.out, rfl⟩
    · have hii : ¬ (k : Int) < (rs.length : Int) := by omega
      have HR : Hid (r = false) := HN.out fun j hl => HNO.out j (by omega) hl
      go_wp2_with fail
      go_ret
      exact ⟨by rw [HR.out]; rfl, rfl⟩

def wordB (st : Int) : ByteArray := if st = 1 then ⟨#[112, 97, 115, 115]⟩ else if st = 2 then ⟨#[102, 97, 105, 108]⟩ else if st = 3 then ⟨#[115, 107, 105, 112]⟩ else ⟨#[]⟩
set_option maxRecDepth 100000 in
theorem rword_any (st : Int) (w : World) : Calls Tryz.prog 38 #[.int .i64 st] w fun e w' => e = .returned (.string (wordB st)) ∧ w' = w := by
  go_enter Tryz.func38, Tryz.ntmps38
  by_cases h1 : st = 1
  · subst h1
    go_wp2_with fail
    go_ret
    exact ⟨rfl, rfl⟩
  · have t1 : (st == 1) = false := by rw [beq_eq_false_iff_ne]; exact h1
    by_cases h2 : st = 2
    · subst h2
      clear h1 t1
      go_wp2_with fail
      go_ret
      exact ⟨rfl, rfl⟩
    · have t2 : (st == 2) = false := by rw [beq_eq_false_iff_ne]; exact h2
      by_cases h3 : st = 3
      · subst h3
        clear h1 t1 h2 t2
        go_wp2_with fail
        go_ret
        exact ⟨rfl, rfl⟩
      · have t3 : (st == 3) = false := by rw [beq_eq_false_iff_ne]; exact h3
        have HW : Hid (wordB st = ⟨#[]⟩) := by unfold Hid wordB; rw [if_neg h1, if_neg h2, if_neg h3]
        clear h1 h2 h3
        go_wp2_with fail
        go_ret
        exact ⟨by rw [HW.out]; rfl, rfl⟩
end Go.Proofs.YtngbjnjkcniabaaGreatDoor
