/- The walk over value.quote. -/
import Derived.Test.YtomecnncighkgaaGreatDoorVa2
import Derived.Test.YtomecnncighkgaaGreatDoorVshm
import Derived.Test.YtomecnncighkgaaGreatDoorVw1
namespace Go.Proofs.YtomecnncighkgaaGreatDoor
open Go.RowKit Go.Deep

abbrev Bu (b : Nat) (l : List UInt8) (W : World) : Prop := Lib.IsBuilderF 93 5 b b (Lib.byteCells l) W
theorem wbyte_any (b : Nat) (l : List UInt8) (c : UInt8) (hl : l.length ≤ 100000000) (W : World) (h : Bu b l W) (hb : b ≤ W.heap.size) :
    Calls Tryz.prog 129 #[.pointer (some ⟨b, 0, none⟩), .int .u8 (c.toNat : Nat)] W fun e w' => e = .returned .nilIface ∧ Bu b (l ++ [c]) w' ∧ Below b W w' :=
  (Tryz.Builder_WriteByte_k b b (Lib.byteCells l) _ W h (by rw [Lib.byteCells_length]; omega) hb).mono (by
    rintro e w' ⟨rfl, hbu, hbl, _⟩
    exact ⟨rfl, by unfold Bu; rw [Lib.byteCells_append]; exact .inr hbu, hbl⟩)
theorem wstr_any (b : Nat) (l : List UInt8) (s : ByteArray) (hl : l.length ≤ 100000000) (hs : s.size ≤ 100000000) (W : World) (h : Bu b l W) (hb : b ≤ W.heap.size) :
    Calls Tryz.prog 77 #[.pointer (some ⟨b, 0, none⟩), .string s] W fun e w' => e = .returned (.tuple #[.int .i64 s.size, .nilIface]) ∧ Bu b (l ++ s.data.toList) w' ∧ Below b W w' :=
  (Tryz.Builder_WriteString_k b b (Lib.byteCells l) s W h (by rw [Lib.byteCells_length]; omega) hb).mono (by
    rintro e w' ⟨rfl, hbu, hbl, _⟩
    exact ⟨rfl, by unfold Bu; rw [Lib.byteCells_append, ← Lib.strCells_eq]; exact .inr hbu, hbl⟩)
def qTo (s : List UInt8) (i : Nat) : List UInt8 := 34 :: (s.take i).flatMap chF
theorem chF_len (c : UInt8) : (chF c).length ≤ 4 := by unfold chF; (repeat' split) <;> simp
theorem flat_len (l : List UInt8) : (l.flatMap chF).length ≤ l.length * 4 := by
  induction l with
  | nil => simp
  | cons c l ih => rw [List.flatMap_cons, List.length_append, List.length_cons]; have := chF_len c; omega
theorem qTo_len (s : List UInt8) (i : Nat) : (qTo s i).length ≤ 4 * s.length + 1 := by
  unfold qTo
  rw [List.length_cons]
  have := flat_len (s.take i)
  have : (s.take i).length ≤ s.length := by rw [List.length_take]; omega
  omega
theorem qTo_succ (s : List UInt8) (i : Nat) (h : i < s.length) : qTo s (i + 1) = qTo s i ++ chF (s.getD i 0) := by
  unfold qTo
  rw [List.take_succ_eq_append_getElem h, List.flatMap_append, List.flatMap_cons, List.flatMap_nil, List.append_nil, List.getD, List.getElem?_eq_getElem h]
  rfl
def QuRel (s : List UInt8) (w : World) (f : Nat) (t4 : Value) (wr : World) : Prop :=
  ∃ i : Nat, t4 = .int .i64 (i : Nat) ∧ i ≤ s.length ∧ f = s.length - i ∧ Bu w.heap.size (qTo s i) wr ∧ Below w.heap.size w wr
theorem hex_byte (n : Nat) (h : n < 16) : (⟨#[48, 49, 50, 51, 52, 53, 54, 55, 56, 57, 97, 98, 99, 100, 101, 102]⟩ : ByteArray)[n]'h = hexF n := by
  have : ∀ k : Fin 16, (⟨#[48, 49, 50, 51, 52, 53, 54, 55, 56, 57, 97, 98, 99, 100, 101, 102]⟩ : ByteArray)[k.val]'k.2 = hexF k.val := by decide +kernel
  exact this ⟨n, h⟩

set_option maxRecDepth 100000 in
set_option maxHeartbeats 3200000 in
theorem quote_any (s : ByteArray) (hs : s.size ≤ 1000000) (w : World) : Calls Tryz.prog 98 #[.string s] w fun e w' => e = .returned (.string ⟨(quoteF s.data.toList).toArray⟩) ∧ Below w.heap.size w w' := by
  have HS := Lib.hid (Lib.size_eq s)
  have HQL : Hid (∀ i, (qTo s.data.toList i).length ≤ 4000001) := fun i => by have := qTo_len s.data.toList i; rw [← Lib.size_eq] at this; omega
  have WB : Hid (∀ (l : List UInt8) (c : UInt8) (W : World), l.length ≤ 100000000 → Bu w.heap.size l W → Below w.heap.size w W → Calls Tryz.prog 129 #[.pointer (some ⟨w.heap.size, 0, none⟩), .int .u8 (c.toNat : Nat)] W fun e w' => e = .returned .nilIface ∧ Bu w.heap.size (l ++ [c]) w' ∧ Below w.heap.size w w') := fun l c W hl h hb =>
    (wbyte_any w.heap.size l c hl W h hb.size).mono (by rintro e w' ⟨rfl, h1, h2⟩; exact ⟨rfl, h1, hb.trans h2⟩)
  have WS : Hid (∀ (l : List UInt8) (s : ByteArray) (W : World), l.length ≤ 100000000 → s.size ≤ 10 → Bu w.heap.size l W → Below w.heap.size w W → Calls Tryz.prog 77 #[.pointer (some ⟨w.heap.size, 0, none⟩), .string s] W fun e w' => e = .returned (.tuple #[.int .i64 s.size, .nilIface]) ∧ Bu w.heap.size (l ++ s.data.toList) w' ∧ Below w.heap.size w w') := fun l s W hl hs h hb =>
    (wstr_any w.heap.size l s hl (by omega) W h hb.size).mono (by rintro e w' ⟨rfl, h1, h2⟩; exact ⟨rfl, h1, hb.trans h2⟩)
  have SB : Hid (∀ (l : List UInt8) (W : World), Bu w.heap.size l W → Below w.heap.size w W → Calls Tryz.prog 78 #[.pointer (some ⟨w.heap.size, 0, none⟩)] W fun e w' => e = .returned (.string ⟨l.toArray⟩) ∧ Below w.heap.size w w') := fun l W h hb =>
    (Tryz.Builder_String_any_f w.heap.size w.heap.size l W h hb.size).mono (by rintro e w' ⟨rfl, _, h2⟩; exact ⟨rfl, hb.trans h2⟩)
  have HN0 : Hid (Bu w.heap.size [] (w.alloc (.cells #[.pointer none, .slice none 0 0] 93 (0, 0)))) := Lib.IsBuilderF.of (Lib.fresh_isBuilder 93 5 w)
  have HB0 : Hid (Below w.heap.size w (w.alloc (.cells #[.pointer none, .slice none 0 0] 93 (0, 0)))) := (Below.refl _ w).alloc (Nat.le_refl _) _
  have W1 := Lib.hid (WB.out [] 34 _ (by decide) HN0.out HB0.out)
  go_enter Tryz.func98, Tryz.ntmps98
  go_wp2_with fail
  refine W1.out.mono ?_
  rintro e w1 ⟨rfl, hbu, hbl⟩
  have HBU1 := Lib.hid hbu
  have HBL1 := Lib.hid hbl
  clear hbu hbl W1
  go_wp2_with fail
  go_loopg [4] s.data.toList.length (QuRel s.data.toList w)
  case atStart => exact ⟨0, rfl, Nat.zero_le _, rfl, HBU1.out, HBL1.out⟩
  case round =>
    obtain ⟨i, rfl, hi, rfl, hbu, hbl⟩ := hrel
    have HBU := Lib.hid hbu
    have HBL := Lib.hid hbl
    rw [← HS.out] at hi
    clear hbu hbl
    by_cases hlt : i < s.size
    · have hat := str_at (s := s) rfl i hlt
      have hii : (i : Int) < (s.size : Int) := by omega
      have HQS := Lib.hid (qTo_succ s.data.toList i (by rw [← HS.out]; exact hlt))
      have HCH : Hid (chF (s.data.toList.getD i 0) = if s.data.toList.getD i 0 = 34 ∨ s.data.toList.getD i 0 = 92 then [92, s.data.toList.getD i 0] else if s.data.toList.getD i 0 = 10 then [92, 110] else if s.data.toList.getD i 0 = 9 then [92, 116] else if 32 ≤ (s.data.toList.getD i 0).toNat ∧ (s.data.toList.getD i 0).toNat ≤ 126 then [s.data.toList.getD i 0] else [92, 120, hexF ((s.data.toList.getD i 0).toNat / 16), hexF ((s.data.toList.getD i 0).toNat % 16)]) := rfl
      have HQI := Lib.hid (HQL.out i)
      generalize s.data.toList.getD i 0 = c at *
      generalize qTo s.data.toList i = q at *
      have hc256 : c.toNat < 256 := c.toNat_lt
      have NEXT : Hid (∀ (q' : List UInt8) (w' : World), q' = q ++ chF c → Bu w.heap.size q' w' → Below w.heap.size w w' → QuRel s.data.toList w (s.data.toList.length - (i + 1)) (.int .i64 ((i : Int) + 1)) w') := fun q' w' e h1 h2 => ⟨i + 1, by go_num, by have := HS.out; omega, rfl, by rw [HQS.out, ← e]; exact h1, h2⟩
      have HMS : Hid (s.data.toList.length - (i + 1) < s.data.toList.length - i) := by have := HS.out; unfold Hid; omega
      by_cases h1 : c = 34 ∨ c = 92
      · have HC : Hid (chF c = [92, c]) := by unfold Hid; rw [HCH.out, if_pos h1]
        have WA := Lib.hid (WB.out q 92 wr (by have := HQI.out; omega) HBU.out HBL.out)
        have WC : Hid (∀ W, Bu w.heap.size (q ++ [92]) W → Below w.heap.size w W → Calls Tryz.prog 129 #[.pointer (some ⟨w.heap.size, 0, none⟩), .int .u8 (c.toNat : Nat)] W fun e w' => e = .returned .nilIface ∧ Bu w.heap.size (q ++ [92] ++ [c]) w' ∧ Below w.heap.size w w') := fun W a b => WB.out (q ++ [92]) c W (by rw [List.length_append]; have := HQI.out; simp; omega) a b
        clear HCH WB WS SB HQL HQI
        rcases h1 with rfl | rfl
        · as_aux_lemma =>
          go_wp2_with fail
          refine WA.out.mono ?_
          rintro e w3 ⟨rfl, hb3, hl3⟩
          have WC3 := Lib.hid (WC.out w3 hb3 hl3)
          clear hb3 hl3 WA WC
          go_wp2_with fail
          refine WC3.out.mono ?_
          rintro e w4 ⟨rfl, hb4, hl4⟩
          have HN := Lib.hid (NEXT.out _ w4 (by rw [HC.out]; simp) hb4 hl4)
          clear hb4 hl4 WC3 NEXT
          go_wp2_with fail
          go_roundg (s.data.toList.length - (i + 1))
          case measure => exact HMS.out
          case rel => exact HN.out
        · as_aux_lemma =>
          go_wp2_with fail
          refine WA.out.mono ?_
          rintro e w3 ⟨rfl, hb3, hl3⟩
          have WC3 := Lib.hid (WC.out w3 hb3 hl3)
          clear hb3 hl3 WA WC
          go_wp2_with fail
          refine WC3.out.mono ?_
          rintro e w4 ⟨rfl, hb4, hl4⟩
          have HN := Lib.hid (NEXT.out _ w4 (by rw [HC.out]; simp) hb4 hl4)
          clear hb4 hl4 WC3 NEXT
          go_wp2_with fail
          go_roundg (s.data.toList.length - (i + 1))
          case measure => exact HMS.out
          case rel => exact HN.out
      · have n34 : ((c.toNat : Int) == 34) = false := by rw [beq_eq_false_iff_ne]; intro e; exact h1 (.inl (UInt8.toNat_inj.1 (by simpa using (by omega : c.toNat = 34))))
        have n92 : ((c.toNat : Int) == 92) = false := by rw [beq_eq_false_iff_ne]; intro e; exact h1 (.inr (UInt8.toNat_inj.1 (by simpa using (by omega : c.toNat = 92))))
        by_cases h10 : c = 10
        · have HC : Hid (chF c = [92, 110]) := by unfold Hid; rw [HCH.out, if_neg h1, if_pos h10]
          have WA := Lib.hid (WS.out q ⟨#[92, 110]⟩ wr (by have := HQI.out; omega) (by decide) HBU.out HBL.out)
          clear HCH WB WS SB HQL HQI n34 n92 h1
          subst h10
          as_aux_lemma =>
          go_wp2_with fail
          refine WA.out.mono ?_
          rintro e w4 ⟨rfl, hb4, hl4⟩
          have HN := Lib.hid (NEXT.out _ w4 (by rw [HC.out]) hb4 hl4)
          clear hb4 hl4 WA NEXT
          go_wp2_with fail
          go_roundg (s.data.toList.length - (i + 1))
          case measure => exact HMS.out
          case rel => exact HN.out
        · have n10 : ((c.toNat : Int) == 10) = false := by rw [beq_eq_false_iff_ne]; intro e; exact h10 (UInt8.toNat_inj.1 (by simpa using (by omega : c.toNat = 10)))
          by_cases h9 : c = 9
          · have HC : Hid (chF c = [92, 116]) := by unfold Hid; rw [HCH.out, if_neg h1, if_neg h10, if_pos h9]
            have WA := Lib.hid (WS.out q ⟨#[92, 116]⟩ wr (by have := HQI.out; omega) (by decide) HBU.out HBL.out)
            clear HCH WB WS SB HQL HQI n34 n92 n10 h1 h10
            subst h9
            as_aux_lemma =>
            go_wp2_with fail
            refine WA.out.mono ?_
            rintro e w4 ⟨rfl, hb4, hl4⟩
            have HN := Lib.hid (NEXT.out _ w4 (by rw [HC.out]) hb4 hl4)
            clear hb4 hl4 WA NEXT
            go_wp2_with fail
            go_roundg (s.data.toList.length - (i + 1))
            case measure => exact HMS.out
            case rel => exact HN.out
          · have n9 : ((c.toNat : Int) == 9) = false := by rw [beq_eq_false_iff_ne]; intro e; exact h9 (UInt8.toNat_inj.1 (by simpa using (by omega : c.toNat = 9)))
            by_cases h32 : 32 ≤ c.toNat ∧ c.toNat ≤ 126
            · have HC : Hid (chF c = [c]) := by unfold Hid; rw [HCH.out, if_neg h1, if_neg h10, if_neg h9, if_pos h32]
              have WA := Lib.hid (WB.out q c wr (by have := HQI.out; omega) HBU.out HBL.out)
              have p1 : (32 : Int) ≤ (c.toNat : Int) := by omega
              have p2 : (c.toNat : Int) ≤ 126 := by omega
              clear HCH WB WS SB HQL HQI h1 h10 h9 h32
              as_aux_lemma =>
              go_wp2_with fail
              refine WA.out.mono ?_
              rintro e w4 ⟨rfl, hb4, hl4⟩
              have HN := Lib.hid (NEXT.out _ w4 (by rw [HC.out]) hb4 hl4)
              clear hb4 hl4 WA NEXT
              go_wp2_with fail
              go_roundg (s.data.toList.length - (i + 1))
              case measure => exact HMS.out
              case rel => exact HN.out
            · have HC : Hid (chF c = [92, 120, hexF (c.toNat / 16), hexF (c.toNat % 16)]) := by unfold Hid; rw [HCH.out, if_neg h1, if_neg h10, if_neg h9, if_neg h32]
              have WA := Lib.hid (WS.out q ⟨#[92, 120]⟩ wr (by have := HQI.out; omega) (by decide) HBU.out HBL.out)
              have WC : Hid (∀ (l : List UInt8) (e : UInt8) (W : World), l.length ≤ 4000010 → Bu w.heap.size l W → Below w.heap.size w W → Calls Tryz.prog 129 #[.pointer (some ⟨w.heap.size, 0, none⟩), .int .u8 (e.toNat : Nat)] W fun e' w' => e' = .returned .nilIface ∧ Bu w.heap.size (l ++ [e]) w' ∧ Below w.heap.size w w') := fun l e W hl a b => WB.out l e W (by omega) a b
              have hx1 := hex_byte (c.toNat / 16) (by omega)
              have hx2 := hex_byte (c.toNat % 16) (by omega)
              clear HCH WB WS SB HQL h1 h10 h9
              by_cases h31 : c.toNat < 32
              · have p1 : (c.toNat : Int) < 32 := by omega
                have p1' : ¬ (32 : Int) ≤ (c.toNat : Int) := by omega
                clear h32
                as_aux_lemma =>
                go_wp2_with fail
                refine WA.out.mono ?_
                rintro e w3 ⟨rfl, hb3, hl3⟩
                have WC3 := Lib.hid (WC.out _ (hexF (c.toNat / 16)) w3 (by rw [List.length_append]; have := HQI.out; simp; omega) hb3 hl3)
                clear hb3 hl3 WA
                go_wp2_with fail
                refine WC3.out.mono ?_
                rintro e w4 ⟨rfl, hb4, hl4⟩
                have WC4 := Lib.hid (WC.out _ (hexF (c.toNat % 16)) w4 (by rw [List.length_append, List.length_append]; have := HQI.out; simp; omega) hb4 hl4)
                clear hb4 hl4 WC3 WC
                go_wp2_with fail
                refine WC4.out.mono ?_
                rintro e w5 ⟨rfl, hb5, hl5⟩
                have HN := Lib.hid (NEXT.out _ w5 (by rw [HC.out]; simp) hb5 hl5)
                clear hb5 hl5 WC4 NEXT
                go_wp2_with fail
                go_roundg (s.data.toList.length - (i + 1))
                case measure => exact HMS.out
                case rel => exact HN.out
              · have p1 : (32 : Int) ≤ (c.toNat : Int) := by omega
                have p2 : (126 : Int) < (c.toNat : Int) := by omega
                have p2' : ¬ (c.toNat : Int) ≤ 126 := by omega
                clear h32
                as_aux_lemma =>
                go_wp2_with fail
                refine WA.out.mono ?_
                rintro e w3 ⟨rfl, hb3, hl3⟩
                have WC3 := Lib.hid (WC.out _ (hexF (c.toNat / 16)) w3 (by rw [List.length_append]; have := HQI.out; simp; omega) hb3 hl3)
                clear hb3 hl3 WA
                go_wp2_with fail
                refine WC3.out.mono ?_
                rintro e w4 ⟨rfl, hb4, hl4⟩
                have WC4 := Lib.hid (WC.out _ (hexF (c.toNat % 16)) w4 (by rw [List.length_append, List.length_append]; have := HQI.out; simp; omega) hb4 hl4)
                clear hb4 hl4 WC3 WC
                go_wp2_with fail
                refine WC4.out.mono ?_
                rintro e w5 ⟨rfl, hb5, hl5⟩
                have HN := Lib.hid (NEXT.out _ w5 (by rw [HC.out]; simp) hb5 hl5)
                clear hb5 hl5 WC4 NEXT
                go_wp2_with fail
                go_roundg (s.data.toList.length - (i + 1))
                case measure => exact HMS.out
                case rel => exact HN.out
    · have hii : ¬ (i : Int) < (s.size : Int) := by omega
      have he : i = s.data.toList.length := by rw [← HS.out]; omega
      have WA := Lib.hid (WB.out _ 34 wr (by have := HQL.out i; omega) HBU.out HBL.out)
      have HQ : Hid (qTo s.data.toList i ++ [34] = quoteF s.data.toList) := by unfold Hid qTo quoteF; rw [he, List.take_length]; rfl
      rw [HQ.out] at WA
      clear WB WS HQL HBU he
      as_aux_lemma =>
      go_wp2_with fail
      refine WA.out.mono ?_
      rintro e w4 ⟨rfl, hb4, hl4⟩
      have SB4 := Lib.hid (SB.out _ w4 hb4 hl4)
      clear hb4 hl4 SB WA
      go_wp2_with fail
      refine SB4.out.mono ?_
      rintro e w5 ⟨rfl, hl5⟩
      go_wp2_with fail
      go_ret
      exact ⟨rfl, hl5⟩
end Go.Proofs.YtomecnncighkgaaGreatDoor
