/- The walks over cut and number of package duration. -/
import Derived.Test.YtbhhjaflinfnfaaDoorDidx2
import Derived.Deep.RegionHeld3
import Derived.BigQuiet
import Derived.IntWalk
import Derived.Deep.RegionWith
namespace Go.Proofs.YtbhhjaflinfnfaaDoor
open Go.RowKit

def cutN (l : List UInt8) : Nat := l.length - (Lib.trimLeftS l digs.data.toList).length
def cutE (l : List UInt8) : Nat := if Lib.indexAny (l.drop (cutN l)) digs.data.toList < 0 then l.length - cutN l else (Lib.indexAny (l.drop (cutN l)) digs.data.toList).toNat

theorem trim_le (l cs : List UInt8) : (Lib.trimLeftS l cs).length ≤ l.length := by
  unfold Lib.trimLeftS
  induction l with
  | nil => simp
  | cons b l ih =>
    rw [List.dropWhile_cons]
    split
    · rw [List.length_cons]; omega
    · exact Nat.le_refl _

theorem idx_lt (chars : List UInt8) : ∀ l : List UInt8, Lib.indexAny l chars < l.length ∨ l = [] ∧ Lib.indexAny l chars = -1
  | [] => .inr ⟨rfl, rfl⟩
  | b :: l => by
    left
    rw [Lib.indexAny]
    split
    · simp
    · split
      · simp; omega
      · rcases idx_lt chars l with h | ⟨rfl, h⟩
        · simp; omega
        · rename_i h2; rw [h] at h2; simp at h2

def asciiF (_ : List UInt8) : Prop := True

def CutPost (s : ByteArray) (w : World) (e : Ending) (w' : World) : Prop :=
  e = .returned (.tuple #[.string (s.extract 0 (cutN s.data.toList)), .string (s.extract (cutN s.data.toList) (cutN s.data.toList + cutE s.data.toList)), .string (s.extract (cutN s.data.toList + cutE s.data.toList) s.size)]) ∧ Below w.heap.size w w'

theorem cut_le (l : List UInt8) : cutN l + cutE l ≤ l.length := by
  unfold cutE
  have h1 : cutN l ≤ l.length := by unfold cutN; omega
  split
  · omega
  · rcases idx_lt digs.data.toList (l.drop (cutN l)) with h | ⟨_, h⟩
    · rw [List.length_drop] at h; omega
    · omega

set_option maxRecDepth 100000 in
set_option maxHeartbeats 800000 in
theorem cut_any (s : ByteArray) (hs : s.size ≤ 1000) (ha : asciiF s.data.toList) (w : World) : Calls Tryd.prog 19 #[.string s] w (CutPost s w) := by
  have HS := Lib.hid (Lib.size_eq s)
  clear ha
  go_enter Tryd.func19, Tryd.ntmps19
  go_wp2_with fail
  refine (Tryd.strings_TrimLeft s digs w (by decide) digs_asciiR).mono ?_
  rintro e w1 ⟨rfl, hb⟩
  have HB1 := Lib.hid hb
  have htl := trim_le s.data.toList digs.data.toList
  have hN : Hid (cutN s.data.toList = s.size - (Lib.trimLeftS s.data.toList digs.data.toList).length) := by unfold Hid cutN; rw [← HS.out]
  have hcl := cut_le s.data.toList
  have HE : Hid (cutE s.data.toList = if Lib.indexAny (s.data.toList.drop (cutN s.data.toList)) digs.data.toList < 0 then s.size - cutN s.data.toList else (Lib.indexAny (s.data.toList.drop (cutN s.data.toList)) digs.data.toList).toNat) := by unfold Hid cutE; rw [← HS.out]
  have hsz : ((⟨(Lib.trimLeftS s.data.toList digs.data.toList).toArray⟩ : ByteArray)).size = (Lib.trimLeftS s.data.toList digs.data.toList).length := by simp [ByteArray.size]
  generalize (⟨(Lib.trimLeftS s.data.toList digs.data.toList).toArray⟩ : ByteArray) = t at *
  generalize (Lib.trimLeftS s.data.toList digs.data.toList).length = tl at *
  rw [← HS.out] at htl hcl
  have hsub : ((s.size : Int) - (t.size : Int)) = ((s.size - tl : Nat) : Int) := by omega
  have hnle : s.size - tl ≤ s.size := by omega
  have HXD : Hid ((s.extract (s.size - tl) s.size).data.toList = s.data.toList.drop (s.size - tl)) := by
    unfold Hid
    rw [Lib.extract_data, List.take_of_length_le (by rw [List.length_drop, ← HS.out]; omega)]
  rw [hN.out] at HE hcl
  generalize hcn : cutN s.data.toList = n at *
  have HCN := Lib.hid hcn
  clear hcn
  clear hb
  go_wp2_with fail
  rw [show ((s.size : Int) - (tl : Int)) = (n : Int) by have := hN.out; omega, show s.size - tl = n from hN.out.symm]
  rw [show s.size - tl = n from hN.out.symm] at HXD hcl hnle HE
  have hxs := Lib.size_eq (s.extract n s.size)
  rw [HXD.out, List.length_drop] at hxs
  refine (indexAny_any (s.extract n s.size) (by rw [hxs, ← HS.out]; omega) w1).mono ?_
  rw [HXD.out]
  have hge := Lib.indexAny_ge digs.data.toList (s.data.toList.drop n)
  have hlt : Lib.indexAny (s.data.toList.drop n) digs.data.toList < s.size - n ∨ Lib.indexAny (s.data.toList.drop n) digs.data.toList = -1 := by
    rcases idx_lt digs.data.toList (s.data.toList.drop n) with h | ⟨_, h⟩
    · rw [List.length_drop, ← HS.out] at h; left; omega
    · exact .inr h
  rintro e w2 ⟨rfl, hb⟩
  have HB2 := Lib.hid (HB1.out.trans (hb.mono HB1.out.size))
  clear hb hxs
  generalize Lib.indexAny (s.data.toList.drop n) digs.data.toList = ix at *
  generalize hce : cutE s.data.toList = ce at *
  have HCE := Lib.hid hce
  clear hce
  go_upto_if 18 with fail
  go_cut [6] (fun s6 wx => s6 = .int .i64 (ce : Nat) ∧ wx = w2)
  case first =>
    by_cases hneg : ix < 0
    · have he : ce = s.size - n := by have := HE.out; rw [if_pos hneg] at this; exact this
      have hsub2 : ((s.size : Int) - (n : Int)) = (ce : Int) := by omega
      go_wp2_with fail
      go_meet
      case rel => exact ⟨by rw [he], rfl⟩
    · have he : ce = ix.toNat := by have := HE.out; rw [if_neg hneg] at this; exact this
      have he2 : Hid (ix = (ce : Int)) := by unfold Hid; omega
      go_wp2_with fail
      go_meet
      case rel => exact ⟨by rw [he2.out], rfl⟩
  case rest =>
    obtain ⟨rfl, rfl⟩ := hcut
    have HCL := Lib.hid hcl
    have hle1 : n ≤ s.size := hnle
    have hle2 : n + ce ≤ s.size := hcl
    have q1 : IntKind.i64.wrap ((n : Int) + (ce : Int)) = (n : Int) + (ce : Int) := IntWalk.i64_in _ (by omega)
    have q2 : (0 : Int) ≤ (n : Int) + (ce : Int) := by omega
    have q3 : ((n : Int) + (ce : Int)).toNat = n + ce := by omega
    have q4 : (n : Int) + (ce : Int) ≤ (s.size : Int) := by omega
    have q5 : (n : Int) ≤ (s.size : Int) := by omega
    have q6 : (n : Int) ≤ (n : Int) + (ce : Int) := by omega
    go_wp2_with fail
    go_quiet (fail)
    clear q1 q2 q3 q4 q5 q6
    go_wp2
    go_ret3
    unfold CutPost
    rw [HCN.out, HCE.out]
    exact ⟨rfl, HB2.out.trans ⟨rfl, rfl, rfl, Nat.le_refl _, fun _ _ => rfl⟩⟩

/-- the number of digits, limited to int -/
def numTo (l : List UInt8) : Nat → Nat
  | 0 => 0
  | k + 1 => min (satMul (numTo l k) 10 + ((l.getD k 0).toNat - 48)) 9223372036854775807
theorem numTo_le (l : List UInt8) (k : Nat) : numTo l k ≤ 9223372036854775807 := by cases k <;> (rw [numTo]; omega)

def NumPost (l : List UInt8) (w : World) (e : Ending) (w' : World) : Prop :=
  e = .returned (if l = [] ∨ l.getD 0 0 = 48 then .tuple #[.int .i64 0, .bool false] else .tuple #[.int .i64 (numTo l l.length : Nat), .bool true]) ∧ Below w.heap.size w w'

def NumRel (w1 : World) (l : List UInt8) (f : Nat) (t4 t15 : Value) (wr : World) : Prop :=
  ∃ k : Nat, t15 = .int .i64 (k : Nat) ∧ t4 = .int .i64 (numTo l k : Nat) ∧ k ≤ l.length ∧ f = l.length - k ∧ Below w1.heap.size w1 wr

theorem satAdd_nat {x d : Nat} (hx : x ≤ 9223372036854775807) (hd : d ≤ 9223372036854775807) : satAdd (x : Int) (d : Int) = ((min (x + d) 9223372036854775807 : Nat) : Int) := by
  unfold satAdd
  split
  · omega
  · rw [if_neg (by omega)]; omega

set_option maxRecDepth 100000 in
set_option maxHeartbeats 1600000 in
theorem number_any (s : ByteArray) (hs : s.size ≤ 1000) (hd : ∀ c ∈ s.data.toList, 48 ≤ c.toNat ∧ c.toNat ≤ 57) (w : World) : Calls Tryd.prog 20 #[.string s] w (NumPost s.data.toList w) := by
  have HS := Lib.hid (Lib.size_eq s)
  have HD := Lib.hid hd
  clear hd
  go_enter Tryd.func20, Tryd.ntmps20
  by_cases h0 : s.data.toList = []
  · obtain ⟨he, hz⟩ := str_nil h0
    have HP : Hid (s.data.toList = [] ∨ s.data.toList.getD 0 0 = 48) := .inl h0
    clear h0
    go_wp2_with fail
    go_ret2
    unfold NumPost
    rw [if_pos HP.out]
    exact ⟨rfl, Below.refl _ _⟩
  · have hpos : 0 < s.size := by
      rw [HS.out]
      exact List.length_pos_iff.2 h0
    have he : s.toList.isEmpty = false := by
      cases hl : s.data.toList with
      | nil => exact absurd hl h0
      | cons c r => exact (str_cons hl).1
    have hat := str_at (s := s) rfl 0 hpos
    have HNE : Hid (¬ s.data.toList = []) := h0
    have HD0 := Lib.hid (HD.out (s.data.toList.getD 0 0) (by
      rw [List.getD, List.getElem?_eq_getElem (by rw [← HS.out]; exact hpos)]
      exact List.getElem_mem _))
    clear h0
    by_cases h48 : (s.data.toList.getD 0 0).toNat = 48
    · have t1 : (((s.data.toList.getD 0 0).toNat : Int) == 48) = true := by rw [beq_iff_eq]; omega
      have HP : Hid (s.data.toList = [] ∨ s.data.toList.getD 0 0 = 48) := .inr (UInt8.toNat_inj.1 (by rw [h48]; rfl))
      clear h48
      generalize s.data.toList.getD 0 0 = c at hat t1
      go_wp2_with fail
      go_ret2
      unfold NumPost
      rw [if_pos HP.out]
      exact ⟨rfl, Below.refl _ _⟩
    · have t1 : (((s.data.toList.getD 0 0).toNat : Int) == 48) = false := by rw [beq_eq_false_iff_ne]; omega
      have HP : Hid (¬ (s.data.toList = [] ∨ s.data.toList.getD 0 0 = 48)) := by
        rintro (h | h)
        · exact HNE.out h
        · exact h48 (by rw [h]; rfl)
      clear h48
      generalize s.data.toList.getD 0 0 = c0 at hat t1
      go_wp2_with fail
      go_loopg [4, 15] s.data.toList.length (NumRel w s.data.toList)
      case atStart => exact ⟨0, rfl, rfl, Nat.zero_le _, rfl, Below.refl _ _⟩
      case round =>
        obtain ⟨k, rfl, rfl, hk, rfl, hbel⟩ := hrel
        have HB := Lib.hid hbel
        rw [← HS.out] at hk
        clear hbel
        by_cases hlt : k < s.size
        · have hatk := str_at (s := s) rfl k hlt
          have hdk := HD.out (s.data.toList.getD k 0) (by
            rw [List.getD, List.getElem?_eq_getElem (by rw [← HS.out]; exact hlt)]
            exact List.getElem_mem _)
          have HNT : Hid (numTo s.data.toList (k + 1) = min (satMul (numTo s.data.toList k) 10 + ((s.data.toList.getD k 0).toNat - 48)) 9223372036854775807) := rfl
          have hnl := numTo_le s.data.toList k
          have hsm : satMul (numTo s.data.toList k) 10 ≤ 9223372036854775807 := by unfold satMul; omega
          generalize s.data.toList.getD k 0 = c at *
          generalize numTo s.data.toList k = x at *
          obtain ⟨hc1, hc2⟩ := hdk
          obtain ⟨d, hd, hd9⟩ : ∃ d : Nat, c.toNat = d + 48 ∧ d ≤ 9 := ⟨c.toNat - 48, by omega, by omega⟩
          rw [show c.toNat - 48 = d by omega] at HNT
          have hii : (k : Int) < (s.size : Int) := by omega
          have w8 : IntKind.u8.wrap ((c.toNat : Int) - 48) = (d : Int) := by
            show ((c.toNat : Int) - 48) % 256 = _
            omega
          have HSA := Lib.hid (satAdd_nat (x := satMul x 10) (d := d) hsm (by omega))
          have hI1 : isI ((satMul x 10 : Nat) : Int) := by unfold isI; omega
          have hI2 : isI ((d : Nat) : Int) := by unfold isI; omega
          have MULA : Hid (∀ W, Below w.heap.size w W → Calls Tryd.prog 22 #[.int .i64 (x : Nat), .int .i64 10] W fun e w' => e = .returned (.int .i64 (satMul x 10 : Nat)) ∧ Below w.heap.size w w') := fun W hW =>
            (mul_any x 10 hnl (by omega) W).mono (by rintro e w' ⟨rfl, hb⟩; exact ⟨rfl, hW.trans (hb.mono hW.size)⟩)
          have ADDA : Hid (∀ W, Below w.heap.size w W → Calls Tryd.prog 21 #[.int .i64 (satMul x 10 : Nat), .int .i64 (d : Nat)] W fun e w' => e = .returned (.int .i64 (min (satMul x 10 + d) 9223372036854775807 : Nat)) ∧ Below w.heap.size w w') := fun W hW =>
            (numAdd_any _ _ hI1 hI2 W).mono (by rintro e w' ⟨rfl, rfl⟩; exact ⟨by rw [HSA.out], hW⟩)
          have hb0 := HB.out
          rw [← HNT.out] at ADDA
          have hnl2 := numTo_le s.data.toList (k + 1)
          generalize hy : numTo s.data.toList (k + 1) = y at *
          have HY := Lib.hid hy
          clear hy
          generalize satMul x 10 = z at *
          clear hI1 hI2 hd hc1 hc2
          have wI : IntKind.i64.wrap (d : Int) = (d : Int) := IntWalk.i64_in _ (by omega)
          go_wp2_with fail
          go_region_with (first | (go_at_call 22; refine (MULA.out _ (by first | exact hb0 | exact hb0.drew)).mono ?_; rintro e wA ⟨rfl, hbA⟩) | (go_at_call 21; refine (ADDA.out _ (by first | exact hbA | exact hbA.drew)).mono ?_; rintro e wB ⟨rfl, hbB⟩))
          all_goals (
            go_wp2
            go_roundg (s.data.toList.length - (k + 1))
            case measure => have := HS.out; omega
            case rel => exact ⟨k + 1, by go_num, by rw [HY.out], by have := HS.out; omega, rfl, hbB⟩)
        · have hk2 : k = s.data.toList.length := by have := HS.out; omega
          have HK : Hid (numTo s.data.toList k = numTo s.data.toList s.data.toList.length) := by unfold Hid; rw [← hk2]
          have hii : ¬ (k : Int) < (s.size : Int) := by omega
          clear hk2
          go_wp2_with fail
          go_ret2
          unfold NumPost
          rw [if_neg HP.out, ← HK.out]
          exact ⟨rfl, HB.out⟩
end Go.Proofs.YtbhhjaflinfnfaaDoor
