/- strings.IndexAny of the digits at any text of at most 1000 bytes: the walks. -/
import Derived.Test.YtbhhjaflinfnfaaDoorDidx
import Derived.Laws.Runes
import Derived.Lib.IndexLaws
import Derived.Lib.IndexAny
import Derived.Lib.QuoteLoop
import Derived.Shelf.Small.Utf8
import Derived.Deep.LoopGhost
import Derived.WalkMore
import Derived.IntWalk
import Derived.BigQuiet
import Derived.Deep.RegionHeld3
import Derived.Deep.RegionWith
namespace Go.Proofs.YtbhhjaflinfnfaaDoor
open Go.RowKit Go.Lib

theorem next_at {P : Program} (w : World) (k : Nat) (s : ByteArray) (pos : Nat) (h : pos < s.size) (hk : w.heap[k]? = some (.stringIter s pos)) :
    ∃ w2 : World, (∀ ty, (Instr.next (.pointer (some ⟨k, 0, none⟩)) true ty).run P w = .ok (.tuple #[.bool true, .int .i64 pos, .int .i32 (Utf8.decode s pos).1]) w2) ∧ w2.heap[k]? = some (.stringIter s (pos + (Utf8.decode s pos).2)) ∧ Below k w w2 := by
  have hkl : k < w.heap.size := by
    rw [Array.getElem?_eq_some_iff] at hk
    exact hk.1
  refine ⟨{ w with heap := w.heap.setIfInBounds k (.stringIter s (pos + (Utf8.decode s pos).2)) }, fun ty => ?_, ?_, ⟨rfl, rfl, rfl, ?_, fun j hj => ?_⟩⟩
  · simp only [Instr.next, getObj, setObj, Sem.run_bind, Sem.run, hk, Result.andThen, h, if_true]
    simp [goInt]
  · simp [hkl]
  · simp
  · simp [Array.getElem?_setIfInBounds]
    omega
theorem next_stop {P : Program} (w : World) (k : Nat) (s : ByteArray) (pos : Nat) (h : ¬ pos < s.size) (hk : w.heap[k]? = some (.stringIter s pos)) (ty : TypeId) :
    (Instr.next (.pointer (some ⟨k, 0, none⟩)) true ty).run P w = .ok (.tuple #[.bool false]) w := by
  simp [Instr.next, getObj, Sem.run, hk, h]

theorem digs_get (i : Nat) (h : i < digs.size) : 48 ≤ (digs[i]'h).toNat ∧ (digs[i]'h).toNat ≤ 57 := by
  have : ∀ k : Fin 10, 48 ≤ (digs[k.val]'k.isLt).toNat ∧ (digs[k.val]'k.isLt).toNat ≤ 57 := by decide +kernel
  exact this ⟨i, h⟩
theorem digs_no (i : Nat) (c : UInt8) (hc : 128 ≤ c.toNat) : Lib.indexByte (digs.extract i digs.size).data.toList c = -1 := by
  have h := Lib.contains_iff_indexByte (digs.extract i digs.size).data.toList c
  have hn : (digs.extract i digs.size).data.toList.contains c = false := by
    rw [Bool.eq_false_iff]
    intro hk
    have hm : c ∈ (digs.extract i digs.size).data.toList := by simpa using hk
    have hm2 : c ∈ digs.data.toList := mem_extract hm
    have := digs_high hc
    rw [Bool.eq_false_iff] at this
    exact this (by simpa using hm2)
  rw [hn] at h
  have h2 := of_decide_eq_false h.symm
  have h3 := Lib.indexByte_ge (digs.extract i digs.size).data.toList c
  omega

set_option maxRecDepth 100000 in
set_option maxHeartbeats 3200000 in
theorem indexRune_err (w : World) : Calls Tryd.prog 42 #[.string digs, .int .i32 65533] w fun e w' => e = .returned (.int .i64 (-1)) ∧ Below w.heap.size w w' := by
  go_enter Tryd.func42, Tryd.ntmps42
  have hd10 : digs.size = 10 := rfl
  have HG := Lib.hid digs_get
  generalize hdg : digs = dg at *
  go_wp2
  go_loopg [5, 6] 10 (fun g _ _ wx => ∃ i : Nat, i + g = 10 ∧ wx = w.iter dg i)
  case atStart => exact ⟨0, by omega, rfl⟩
  case round =>
    obtain ⟨i, hig, rfl⟩ := hrel
    cases gk with
    | zero =>
      obtain rfl : i = 10 := by omega
      have hnx := fun ty => run_next_end (P := Tryd.prog) w dg 10 ty (by omega)
      go_wp2
      go_ret
      exact ⟨rfl, (Below.refl _ _).alloc (Nat.le_refl _) _⟩
    | succ g =>
      have hi : i < dg.size := by omega
      obtain ⟨x, hx⟩ : ∃ x : UInt8, dg[i]'hi = x := ⟨_, rfl⟩
      have hb := HG.out i hi
      have hnx := fun ty => run_next_ascii (P := Tryd.prog) w dg i ty hi (by omega)
      rw [hx] at hnx hb
      have hne : ((x.toNat : Int) == 65533) = false := by rw [beq_eq_false_iff_ne]; omega
      clear hx
      go_wp2
      go_roundg g
      case measure => omega
      case rel => exact ⟨i + 1, by omega, rfl⟩

theorem ib_ret {n} {Q} {a : Act} {w : World} : Exit.inBlock n Q .ret a w = Q .ret a w := rfl
theorem th_ret {K} {Q} {a : Act} {w : World} : Exit.then K Q .ret a w = Q .ret a w := rfl
theorem valid_lib {r : Int} (h : Lib.validRune r = true) : Utf8.valid r = true := by
  unfold Lib.validRune at h
  have h := of_decide_eq_true h
  unfold Utf8.valid
  simp
  omega

set_option maxRecDepth 100000 in
set_option maxHeartbeats 3200000 in
theorem indexRune_high (r : Int) (h0 : 128 ≤ r) (h1 : r ≤ 2147483647) (w : World) : Calls Tryd.prog 42 #[.string digs, .int .i32 r] w fun e w' => e = .returned (.int .i64 (-1)) ∧ Below w.heap.size w w' := by
  by_cases he : r = 65533
  · subst he
    exact indexRune_err w
  have tz : (r == 65533) = false := by rw [beq_eq_false_iff_ne]; exact he
  have tl : ¬ r < 128 := by omega
  have tg : (0 : Int) ≤ r := by omega
  have hEN := encode_facts r
  cases hv : Lib.validRune r with
  | false =>
    clear hEN
    go_enter Tryd.func42, Tryd.ntmps42
    generalize digs = dg at *
    go_wp2_with fail
    refine (Any.utf8_ValidRune { Tryd.lays153 with } r w).mono ?_
    rw [hv]
    rintro e w1 ⟨rfl, rfl⟩
    go_wp2_with fail
    go_ret
    exact ⟨rfl, Below.refl _ _⟩
  | true =>
    obtain ⟨e2, e4, el⟩ := hEN (valid_lib hv) h0
    clear hEN
    go_enter Tryd.func42, Tryd.ntmps42
    have hd10 : digs.size = 10 := rfl
    have HG := Lib.hid digs_get
    have HNO := Lib.hid digs_no
    generalize digs = dg at *
    obtain ⟨L, hL⟩ : ∃ L, (Utf8.encode r).size = L + 1 := ⟨(Utf8.encode r).size - 1, by omega⟩
    have hLl : L < (Utf8.encode r).size := by omega
    have hc : 128 ≤ ((Utf8.encode r)[L]'hLl).toNat := by
      have h := el (by omega)
      have e : (Utf8.encode r).size - 1 = L := by omega
      simpa only [e] using h
    have hsub : ((Utf8.encode r).size : Int) - 1 = (L : Int) := by omega
    have hL2 : (L : Int) < (dg.size : Int) := by omega
    have hLd : L < dg.size := by omega
    obtain ⟨c, hcc⟩ : ∃ c : UInt8, (Utf8.encode r)[L]'hLl = c := ⟨_, rfl⟩
    obtain ⟨d, hdd⟩ : ∃ d : UInt8, dg[L]'hLd = d := ⟨_, rfl⟩
    have hdr := HG.out L hLd
    rw [hcc] at hc
    rw [hdd] at hdr
    have hne : (!((d.toNat : Int) == (c.toNat : Int))) = true := by
      have : ((d.toNat : Int) == (c.toNat : Int)) = false := by rw [beq_eq_false_iff_ne]; omega
      rw [this]; rfl
    have hIX : Hid (Lib.indexByte (dg.extract (L + 1) dg.size).data.toList c = -1) := HNO.out (L + 1) c hc
    clear HG el HNO
    go_wp2_with fail
    refine (Any.utf8_ValidRune { Tryd.lays153 with } r w).mono ?_
    rw [hv]
    rintro e w1 ⟨rfl, rfl⟩
    have hcv : ∀ wx : World, (convert 21 9 (.int .i32 r)).run Tryd.prog wx = .ok (.string (Utf8.encode r)) wx := fun wx => run_convert_int_string wx _ _ _ _ (by kernel_rfl) (by kernel_rfl)
    generalize Utf8.encode r = en at *
    go_wp2_with fail
    go_step3
    have q1 : IntKind.i64.wrap ((L : Int) + 1) = (L : Int) + 1 := IntWalk.i64_in _ (by omega)
    have q2 : wrap64 ((L : Int) + 1) = (L : Int) + 1 := by unfold wrap64; omega
    have q3 : (0 : Int) ≤ (L : Int) + 1 := by omega
    have q4 : ((L : Int) + 1).toNat = L + 1 := by omega
    have q5 : (L : Int) + 1 ≤ (dg.size : Int) := by omega
    have hback : ((c.toNat : Int)).toNat.toUInt8 = c := by simp
    have HQ0 : ∀ wx : World, Calls Tryd.prog 49 #[.string (dg.extract (L + 1) dg.size), .int .u8 (c.toNat : Int)] wx fun e w' => e = .returned (.int .i64 (-1)) ∧ w' = wx := fun wx => by
      have h : Calls Tryd.prog 49 #[.string (dg.extract (L + 1) dg.size), .int .u8 (c.toNat : Int)] wx fun e w' => e = .returned (.int .i64 (Lib.indexByte (dg.extract (L + 1) dg.size).data.toList ((c.toNat : Int)).toNat.toUInt8)) ∧ w' = wx := Any.strings_IndexByte { Tryd.lays153 with } _ _ _
      rw [hback, hIX.out] at h
      exact h
    have HQ : ∀ (wx : World) (a b : Nat), Hid (Calls Tryd.prog 49 #[.string (dg.extract (L + 1) dg.size), .int .u8 (c.toNat : Int)] (wx.drewN (a + b)) fun e w' => e = .returned (.int .i64 (-1)) ∧ ∃ n, w' = wx.drewN (a + n)) := fun wx a b => (HQ0 _).mono fun e w' h => ⟨h.1, b, h.2⟩
    have hE1 : (L : Int) < (en.size : Int) := by omega
    have hL3 : L ≤ 3 := by omega
    have q0 : wrap64 (L : Int) = (L : Int) := by unfold wrap64; omega
    clear HQ0 hd10 hv hL e2 e4
    go_wp2_with fail
    go_loopg [9] 1 (fun _ s9 wx => s9 = .int .i64 (L : Nat) ∧ wx = w1)
    case atStart => exact ⟨rfl, rfl⟩
    case round =>
      obtain ⟨rfl, rfl⟩ := hrel
      go_wp2_with fail
      go_step3
      go_wp2_with fail
      go_quiet (fail)
      go_wp2_with fail
      go_quiet ((go_at_call 49; with_reducible exact (HQ _ _ _).out))
      go_wp2_with fail
      simp only [Exit.noGoto_ret, ib_ret, th_ret]
      go_ret
      exact ⟨rfl, rfl, rfl, rfl, Nat.le_refl _, fun _ _ => rfl⟩

def IxRel (w : World) (s : ByteArray) (g : Nat) (wx : World) : Prop :=
  ∃ i : Nat, i ≤ s.size ∧ g = s.size - i ∧ wx.heap[w.heap.size]? = some (.stringIter s i) ∧ w.heap.size < wx.heap.size ∧ Below w.heap.size w wx ∧ Lib.NoAny s.data.toList digs.data.toList i

set_option maxRecDepth 100000 in
set_option maxHeartbeats 3200000 in
theorem indexAny_short (s : ByteArray) (h8 : s.size ≤ 8) (w : World) : Calls Tryd.prog 33 #[.string s, .string digs] w fun e w' => e = .returned (.int .i64 (Lib.indexAny s.data.toList digs.data.toList)) ∧ Below w.heap.size w w' := by
  have hemp : digs.toList.isEmpty = false := by decide +kernel
  have hn1 : ((digs.size : Int) == 1) = false := by decide +kernel
  have h8z : decide ((8 : Int) < (s.size : Int)) = false := decide_eq_false (by omega)
  have R0 : IxRel w s s.size (w.iter s 0) := ⟨0, Nat.zero_le _, rfl, World.iter_heap _ _ _, by simp only [World.iter, World.alloc, Array.size_push]; omega, (Below.refl _ _).alloc (Nat.le_refl _) _, Lib.NoAny.zero _ _⟩
  have HR0 := Lib.hid R0
  clear R0
  have HIR : Hid (∀ (r : Int) (wx : World), 128 ≤ r → r ≤ 2147483647 → Calls Tryd.prog 42 #[.string digs, .int .i32 r] wx fun e w' => e = .returned (.int .i64 (-1)) ∧ Below wx.heap.size wx w') := fun r wx h0 h1 => indexRune_high r h0 h1 wx
  have HIA : Hid (∀ (r : Int) (wx : World), 0 ≤ r → r < 128 → Calls Tryd.prog 42 #[.string digs, .int .i32 r] wx fun e w' => e = .returned (.int .i64 (Lib.indexByte digs.data.toList r.toNat.toUInt8)) ∧ w' = wx) := fun r wx h0 h1 => Any.strings_IndexRune_ascii { Tryd.lays153 with } _ _ _ h0 h1
  have HUS : Hid (Calls Tryd.prog 43 #[.int .i64 (s.size : Int)] w fun e w' => e = .returned (.bool (decide (8 < (s.size : Int)))) ∧ w' = w) := Any.strings_shouldUseASCIISet { Tryd.lays153 with } _ _
  have HADD : Hid (∀ {pos : Nat} (h : pos < s.size), 128 ≤ (s[pos]'h).toNat → Lib.NoAny s.data.toList digs.data.toList pos → Lib.NoAny s.data.toList digs.data.toList (pos + (Utf8.decode s pos).2)) := fun h ha hn => noAny_add h ha hn
  unfold IxRel at HR0
  go_enter Tryd.func33, Tryd.ntmps33
  generalize digs = dg at *
  go_wp2_with fail
  refine HUS.out.mono ?_
  rw [h8z]
  rintro e w1 ⟨rfl, rfl⟩
  go_wp2_with fail
  go_loopg [9, 10] s.size (fun g _ _ wx => ∃ i : Nat, i ≤ s.size ∧ g = s.size - i ∧ wx.heap[w1.heap.size]? = some (.stringIter s i) ∧ w1.heap.size < wx.heap.size ∧ Below w1.heap.size w1 wx ∧ Lib.NoAny s.data.toList dg.data.toList i)
  case atStart => exact HR0.out
  case round =>
    obtain ⟨i, hi, rfl, hk, hlt, hb, hno⟩ := hrel
    have HN := Lib.hid hno
    have HB := Lib.hid hb
    clear hno hb
    by_cases hend : i < s.size
    · obtain ⟨w2, hnx, hk2, hb2⟩ := next_at (P := Tryd.prog) wr w1.heap.size s i hend hk
      have HB2 := Lib.hid (HB.out.trans hb2)
      have hlt2 : w1.heap.size < w2.heap.size := Nat.lt_of_lt_of_le hlt hb2.size
      clear hk hb2 hlt
      obtain ⟨x, hx⟩ : ∃ x : UInt8, s[i]'hend = x := ⟨_, rfl⟩
      have Hx : Hid (s.data.toList[i]? = some x) := by
        have h : s.data.toList[i]? = some (s[i]'hend) := Lib.data_getElem? s i hend
        rw [hx] at h; exact h
      by_cases ha : x.toNat < 128
      · have hde : Utf8.decode s i = (x.toNat, 1) := by rw [decode_ascii s i hend (by rw [hx]; exact ha), hx]
        rw [hde] at hnx hk2
        simp only at hnx hk2
        have hcon := Lib.contains_iff_indexByte dg.data.toList x
        have hback : ((x.toNat : Int)).toNat.toUInt8 = x := by simp
        have HC : Hid (Calls Tryd.prog 42 #[.string dg, .int .i32 (x.toNat : Int)] w2 fun e w' => e = .returned (.int .i64 (Lib.indexByte dg.data.toList x)) ∧ w' = w2) := by
          have h := HIA.out (x.toNat : Int) w2 (by omega) (by omega)
          rw [hback] at h
          exact h
        clear hx hde hback
        cases hin : dg.data.toList.contains x with
        | false =>
          rw [hin] at hcon
          have hl0 : ¬ ((0 : Int) ≤ Lib.indexByte dg.data.toList x) := of_decide_eq_false hcon.symm
          have HN2 : Hid (Lib.NoAny s.data.toList dg.data.toList (i + 1)) := HN.out.succ Hx.out hin
          clear hcon hin
          go_wp2_with fail
          refine HC.out.mono ?_
          rintro e w3 ⟨rfl, rfl⟩
          go_wp2_with fail
          go_roundg (s.size - (i + 1))
          case measure => omega
          case rel => exact ⟨i + 1, hend, rfl, hk2, hlt2, HB2.out, HN2.out⟩
        | true =>
          rw [hin] at hcon
          have hge : (0 : Int) ≤ Lib.indexByte dg.data.toList x := of_decide_eq_true hcon.symm
          have HV : Hid (Lib.indexAny s.data.toList dg.data.toList = i) := Lib.indexAny_hit HN.out Hx.out hin
          clear hcon hin
          go_wp2_with fail
          refine HC.out.mono ?_
          rintro e w3 ⟨rfl, rfl⟩
          go_wp2_with fail
          go_ret
          exact ⟨by rw [HV.out]; rfl, HB2.out⟩
      · have h1 : 128 ≤ (s[i]'hend).toNat := by rw [hx]; omega
        have hd1 := decode_high s i hend h1
        have hd2 := decode_cont s i hend h1
        have hd3 := decode_le s i
        have HN2 : Hid (Lib.NoAny s.data.toList dg.data.toList (i + (Utf8.decode s i).2)) := HADD.out hend h1 HN.out
        have hle := hd2.1
        have hw1 := hd1.2
        have HC : Hid (Calls Tryd.prog 42 #[.string dg, .int .i32 ((Utf8.decode s i).1 : Int)] w2 fun e w' => e = .returned (.int .i64 (-1)) ∧ Below w2.heap.size w2 w') := HIR.out _ w2 (by have := hd1.1; omega) (by omega)
        clear hd1 hd2 hd3 h1 hx
        generalize (Utf8.decode s i).1 = rn at *
        generalize (Utf8.decode s i).2 = wd at *
        go_wp2_with fail
        refine HC.out.mono ?_
        rintro e w3 ⟨rfl, hb3⟩
        have HB3 := Lib.hid (HB2.out.trans (hb3.mono HB2.out.size))
        have hk3 : w3.heap[w1.heap.size]? = some (.stringIter s (i + wd)) := by rw [hb3.block _ hlt2]; exact hk2
        have hlt3 : w1.heap.size < w3.heap.size := Nat.lt_of_lt_of_le hlt2 hb3.size
        clear hb3
        go_wp2_with fail
        go_roundg (s.size - (i + wd))
        case measure => omega
        case rel => exact ⟨i + wd, hle, rfl, hk3, hlt3, HB3.out, HN2.out⟩
    · obtain rfl : i = s.size := by omega
      have hnx := fun ty => next_stop (P := Tryd.prog) wr w1.heap.size s s.size hend hk ty
      have HV : Hid (Lib.indexAny s.data.toList dg.data.toList = -1) := Lib.indexAny_none (by rw [← Lib.size_eq]; exact HN.out)
      go_wp2_with fail
      go_ret
      exact ⟨by rw [HV.out]; rfl, HB.out⟩

theorem indexAny_any (s : ByteArray) (hs : s.size ≤ 1000) (w : World) : Calls Tryd.prog 33 #[.string s, .string digs] w fun e w' => e = .returned (.int .i64 (Lib.indexAny s.data.toList digs.data.toList)) ∧ Below w.heap.size w w' := by
  by_cases h8 : s.size ≤ 8
  · exact indexAny_short s h8 w
  · have z := zero_of_info (P := Tryd.prog) (t := Tryd.lays153_ren.t 116) (v := .agg (Array.replicate 256 (.bool false))) (n := 256) (by kernel_rfl)
    refine (Any.strings_IndexAny_long Tryd.lays153 z.1 z.2 s digs w (by decide) (by omega) (by omega) (by decide) digs_asciiR).mono fun e w' ⟨h1, h2⟩ => ⟨h1, ?_⟩
    rw [h2]
    exact ((Below.refl _ _).alloc (Nat.le_refl _) _).alloc (by simp) _
end Go.Proofs.YtbhhjaflinfnfaaDoor
