/- The walks over the reference's parser: last, member, class. -/
import Derived.Test.YtnmbabaihfdljaaParse2
namespace Go.Proofs.Ytnmbabaihfdljaa
open Go.RowKit
open Bs

/-- the byte at an index, or 0 -/
def lastF (l : List UInt8) (k : Nat) : Nat := (l.getD k 0).toNat
theorem lastF_lt (l : List UInt8) (k : Nat) : lastF l k < 256 := UInt8.toNat_lt _

set_option maxRecDepth 100000 in
set_option maxHeartbeats 400000 in
theorem last_any (s : ByteArray) (n : Int) (h0 : 0 ≤ n) (_hs : s.size ≤ maxLen) (w : World) :
    Calls Try.prog 27 #[.string s, .int .i64 n] w fun e w' => e = .returned (.int .u8 (lastF s.data.toList n.toNat : Nat)) ∧ w = w' := by
  obtain ⟨k, rfl⟩ := Int.eq_ofNat_of_zero_le h0
  by_cases h : k < s.size
  · have hf : (s.data.toList.getD k 0) = s[k] := (str_at rfl k h).symm
    have HF := Lib.hid hf
    clear hf
    go_enter Try.func27, Try.ntmps27
    go_wp2
    go_ret
    exact ⟨ret_int (by show ((s[k]).toNat : Int) = ((s.data.toList.getD k 0).toNat : Int); rw [HF.out]), rfl⟩
  · have hf : (s.data.toList.getD k 0) = 0 := by
      rw [List.getD_eq_getElem?_getD, List.getElem?_eq_none (by rw [← Lib.size_eq]; omega)]; rfl
    have HF := Lib.hid hf
    clear hf
    go_enter Try.func27, Try.ntmps27
    go_wp2
    go_ret
    exact ⟨ret_int (by show (0 : Int) = ((s.data.toList.getD k 0).toNat : Int); rw [HF.out]; rfl), rfl⟩

def MemberPost (l : List UInt8) (k : Nat) (w : World) (e : Ending) (w' : World) : Prop :=
  ∃ (lo nx : Nat) (ok : Bool), e = .returned (.tuple #[.int .u8 (lo : Nat), .int .i64 (nx : Nat), .bool ok]) ∧ w = w' ∧ ok = decide ((charF (l.drop k)).2 ≠ 0) ∧
    (ok = true → lo = (charF (l.drop k)).1 ∧ nx = k + (charF (l.drop k)).2) ∧ lo < 256 ∧ nx ≤ k + 2

theorem charF_nil {l : List UInt8} {k : Nat} (h : l.length ≤ k) : charF (l.drop k) = (0, 0) := by
  rw [List.drop_of_length_le h]; rfl

set_option maxRecDepth 100000 in
set_option maxHeartbeats 800000 in
theorem member_any (s : ByteArray) (n : Int) (h0 : 0 ≤ n) (hs : s.size ≤ 4096) (hn : n ≤ s.size + 1) (w : World) :
    Calls Try.prog 40 #[.string s, .int .i64 n] w (MemberPost s.data.toList n.toNat w) := by
  obtain ⟨k, rfl⟩ := Int.eq_ofNat_of_zero_le h0
  rw [Int.toNat_natCast]
  have hs' : s.size ≤ maxLen := by unfold maxLen; omega
  by_cases h : k < s.size
  · have hd := drop_cons (s := s) rfl h
    have hb := s[k].toNat_lt
    by_cases c92 : s[k].toNat = 92
    · have t1 : ((s[k].toNat : Int) == 92) = true := by simp [c92]
      by_cases h1 : k + 1 < s.size
      · have hd1 := drop_cons (s := s) rfl h1
        have hf : charF (s.data.toList.drop k) = (s[k + 1].toNat, 2) := by
          rw [hd, hd1]; simp [charF, c92]
        have hg : s.data.toList.getD (k + 1) 0 = s[k + 1] := (str_at rfl (k + 1) h1).symm
        have hb1 := s[k + 1].toNat_lt
        have HF := Lib.hid hf
        have HG := Lib.hid hg
        clear hd hd1 hf hg c92
        go_enter Try.func40, Try.ntmps40
        go_wp2_with (go_at_call 27; refine (last_any s _ (by omega) hs' _).mono ?_; rintro e w' ⟨rfl, rfl⟩)
        go_ret3
        refine ⟨s[k + 1].toNat, k + 2, true, ?_, rfl, by rw [HF.out]; rfl, fun _ => by rw [HF.out]; exact ⟨rfl, rfl⟩, hb1, by omega⟩
        refine tup3 (iv ?_) (iv (by omega)) ?_
        · rw [lastF, HG.out]
        · simp; omega
      · have hf : charF (s.data.toList.drop k) = (0, 0) := by
          rw [hd, List.drop_of_length_le (by rw [← Lib.size_eq]; omega)]; simp [charF, c92]
        have HF := Lib.hid hf
        clear hd hf c92
        have hbl := lastF_lt s.data.toList (k + 1)
        go_enter Try.func40, Try.ntmps40
        go_wp2_with (go_at_call 27; refine (last_any s _ (by omega) hs' _).mono ?_; rintro e w' ⟨rfl, rfl⟩)
        go_ret3
        refine ⟨lastF s.data.toList (k + 1), k + 2, false, ?_, rfl, by rw [HF.out]; rfl, (by simp), hbl, by omega⟩
        refine tup3 (iv ?_) (iv (by omega)) ?_
        · rfl
        · simp; omega
    · have t1 : ((s[k].toNat : Int) == 92) = false := by rw [beq_eq_false_iff_ne]; omega
      by_cases c93 : s[k].toNat = 93 ∨ s[k].toNat = 45
      · have hf : charF (s.data.toList.drop k) = (0, 0) := by rw [hd]; simp [charF, c93]
        have HF := Lib.hid hf
        have t2 : ((s[k].toNat : Int) == 93) = true ∨ (((s[k].toNat : Int) == 93) = false ∧ ((s[k].toNat : Int) == 45) = true) := by
          by_cases h : s[k].toNat = 93
          · left; simp [h]
          · right; refine ⟨by rw [beq_eq_false_iff_ne]; omega, by rw [beq_iff_eq]; omega⟩
        clear hd hf c93 c92
        rcases t2 with t2 | ⟨t2, t3⟩
        all_goals
          go_enter Try.func40, Try.ntmps40
          go_wp2
          go_ret3
          exact ⟨0, k, false, rfl, rfl, by rw [HF.out]; rfl, (by simp), by omega, by omega⟩
      · have hf : charF (s.data.toList.drop k) = (s[k].toNat, 1) := by rw [hd]; simp [charF, c93, c92]
        have HF := Lib.hid hf
        have t2 : ((s[k].toNat : Int) == 93) = false := by rw [beq_eq_false_iff_ne]; omega
        have t3 : ((s[k].toNat : Int) == 45) = false := by rw [beq_eq_false_iff_ne]; omega
        clear hd hf c93 c92
        go_enter Try.func40, Try.ntmps40
        go_wp2
        go_ret3
        exact ⟨s[k].toNat, k + 1, true, by simp, rfl, by rw [HF.out]; rfl, fun _ => by rw [HF.out]; exact ⟨rfl, rfl⟩, hb, by omega⟩
  · have hf : charF (s.data.toList.drop k) = (0, 0) := charF_nil (by rw [← Lib.size_eq]; omega)
    have HF := Lib.hid hf
    clear hf
    go_enter Try.func40, Try.ntmps40
    go_wp2
    go_ret3
    exact ⟨0, k, false, rfl, rfl, by rw [HF.out]; rfl, (by simp), by omega, by omega⟩

/-- the items of a class from here on, and what is left behind it -/
def rclsF : Nat → List UInt8 → List (Nat × Nat) → Option (List (Nat × Nat) × List UInt8)
  | 0, _, _ => none
  | f + 1, l, its =>
    if l.head? = some 93 then some (its, l.drop 1)
    else if (charF l).2 = 0 then none
    else if (l.drop (charF l).2).head? = some 45 then
      if (charF (l.drop ((charF l).2 + 1))).2 = 0 ∨ (charF (l.drop ((charF l).2 + 1))).1 < (charF l).1 then none
      else rclsF f (l.drop ((charF l).2 + (1 + (charF (l.drop ((charF l).2 + 1))).2))) (its ++ [((charF l).1, (charF (l.drop ((charF l).2 + 1))).1)])
    else rclsF f (l.drop (charF l).2) (its ++ [((charF l).1, (charF l).1)])

theorem rclsF_go (f : Nat) (l : List UInt8) (its : List (Nat × Nat)) (h : ¬ l.head? = some 93) :
    rclsF (f + 1) l its = if (charF l).2 = 0 then none
    else if (l.drop (charF l).2).head? = some 45 then
      if (charF (l.drop ((charF l).2 + 1))).2 = 0 ∨ (charF (l.drop ((charF l).2 + 1))).1 < (charF l).1 then none
      else rclsF f (l.drop ((charF l).2 + (1 + (charF (l.drop ((charF l).2 + 1))).2))) (its ++ [((charF l).1, (charF (l.drop ((charF l).2 + 1))).1)])
    else rclsF f (l.drop (charF l).2) (its ++ [((charF l).1, (charF l).1)]) := by
  rw [rclsF, if_neg h]

theorem rclsF_rest {f : Nat} : ∀ {l : List UInt8} {its its' : List (Nat × Nat)} {r : List UInt8}, rclsF f l its = some (its', r) → r.length + 1 ≤ l.length := by
  induction f with
  | zero => intro l its its' r h; cases h
  | succ f ih =>
    intro l its its' r h
    by_cases hh : l.head? = some 93
    · rw [rclsF, if_pos hh] at h
      simp only [Option.some.injEq, Prod.mk.injEq] at h
      cases l with
      | nil => cases hh
      | cons c l => rw [← h.2]; simp
    · rw [rclsF_go f l its hh] at h
      by_cases h1 : (charF l).2 = 0
      · rw [if_pos h1] at h; cases h
      · rw [if_neg h1] at h
        by_cases h2 : (l.drop (charF l).2).head? = some 45
        · rw [if_pos h2] at h
          split at h
          · cases h
          · have := ih h; simp at this; omega
        · rw [if_neg h2] at h
          have := ih h; simp at this; omega

def flatI (its : List (Nat × Nat)) : List Value := its.flatMap fun p => [.int .u8 (p.1 : Nat), .int .u8 (p.2 : Nat)]
theorem flatI_snoc (its : List (Nat × Nat)) (p : Nat × Nat) : flatI (its ++ [p]) = flatI its ++ [.int .u8 (p.1 : Nat), .int .u8 (p.2 : Nat)] := by simp [flatI]

def RClassPost (l : List UInt8) (k : Nat) (w : World) (e : Ending) (w' : World) : Prop :=
  ∃ (sv : Value) (nx : Nat) (ok : Bool), e = .returned (.tuple #[.agg #[.int .i64 4, sv], .int .i64 (nx : Nat), .bool ok]) ∧ Below w.heap.size w w' ∧ sv.oneCell' = true ∧ nx ≤ l.length ∧
    (match rclsF (l.length + 1) (l.drop k) [] with
      | none => ok = false
      | some (its, r) => ok = decide (its ≠ []) ∧ (ok = true → nx = l.length - r.length ∧ w'.ownsRow w.heap.size 53 2 sv its.length (flatI its)))

def RClsRel (w : World) (l : List UInt8) (R : Option (List (Nat × Nat) × List UInt8)) (f : Nat) (t1 : Value) (wr : World) : Prop :=
  ∃ (k : Nat) (its : List (Nat × Nat)) (sv : Value), t1 = .int .i64 (k : Nat) ∧ k ≤ l.length ∧ its.length ≤ k ∧ R = rclsF f (l.drop k) its ∧ l.length - k < f ∧
    wr.heap[w.heap.size + 1]? = some (.cells #[.int .i64 4, sv] 52 (0, 0)) ∧ wr.heap[w.heap.size]? = some (.cells #[.int .i64 0, .slice none 0 0] 52 (0, 0)) ∧
    wr.ownsRow (w.heap.size + 2) 53 2 sv its.length (flatI its) ∧ Below w.heap.size w wr ∧ w.heap.size + 2 ≤ wr.heap.size

theorem Try.info53 : (Try.prog.info? 53).map (fun i => (i.zero, i.size, i.bytes)) = some (some (.agg #[.int .u8 0, .int .u8 0]), 2, 2) := by kernel_rfl
theorem Try.info53' : ∃ i, Try.prog.info? 53 = some i ∧ i.zero = some (.agg #[.int .u8 0, .int .u8 0]) ∧ i.size = 2 ∧ i.bytes = 2 := info_parts Try.info53

theorem lastF_93 {s : ByteArray} {k c : Nat} (h : lastF s.data.toList k = c) (hc : c ≠ 0) : ∃ hk : k < s.size, s[k].toNat = c := by
  by_cases hk : k < s.size
  · refine ⟨hk, ?_⟩
    rw [str_at rfl k hk]; exact h
  · unfold lastF at h
    rw [List.getD_eq_getElem?_getD, List.getElem?_eq_none (by rw [← Lib.size_eq]; omega)] at h
    exact (hc h.symm).elim

theorem head_lastF {s : ByteArray} {k : Nat} (c : UInt8) (hc : c ≠ 0) : (s.data.toList.drop k).head? = some c ↔ lastF s.data.toList k = c.toNat := by
  by_cases hk : k < s.size
  · rw [drop_cons rfl hk]
    have : lastF s.data.toList k = s[k].toNat := by rw [str_at rfl k hk]; rfl
    rw [this]
    simp [UInt8.toNat_inj]
  · rw [List.drop_of_length_le (by rw [← Lib.size_eq]; omega)]
    unfold lastF
    rw [List.getD_eq_getElem?_getD, List.getElem?_eq_none (by rw [← Lib.size_eq]; omega)]
    constructor
    · intro h; cases h
    · intro h; exact (hc (by rw [← UInt8.toNat_inj, ← h]; rfl)).elim

set_option maxRecDepth 100000 in
set_option maxHeartbeats 1600000 in
theorem rclass_any (s : ByteArray) (n : Int) (h0 : 0 ≤ n) (hs : s.size ≤ 4096) (hn : n ≤ s.size) (w : World) :
    Calls Try.prog 32 #[.string s, .int .i64 n] w (RClassPost s.data.toList n.toNat w) := by
  obtain ⟨k0, rfl⟩ := Int.eq_ofNat_of_zero_le h0
  rw [Int.toNat_natCast]
  have hs' : s.size ≤ maxLen := by unfold maxLen; omega
  have HS := Lib.hid (Lib.size_eq s)
  obtain ⟨i0, hi⟩ := Try.info53'
  have HI := Lib.hid hi
  clear hi
  go_enter Try.func32, Try.ntmps32
  go_wp2_with fail
  go_loopg [1] (s.data.toList.length + 1) (RClsRel w s.data.toList (rclsF (s.data.toList.length + 1) (s.data.toList.drop k0) []))
  case atStart =>
    exact ⟨k0, [], .slice none 0 0, rfl, by rw [← HS.out]; omega, by simp, rfl, by omega, hp_new (by simp), by rw [hp_old (by simp)]; exact hp_new rfl, World.ownsRow_nil _ _ _ _, ((Below.refl _ _).alloc (Nat.le_refl _) _).alloc (by simp) _, by simp⟩
  case round =>
    obtain ⟨k, its, sv, rfl, hk1, hk2, hR, hf, hB1, hB0, hown, hBel, hsz⟩ := hrel
    have hks : k ≤ s.size := by have := HS.out; omega
    obtain ⟨g, rfl⟩ : ∃ g, gk = g + 1 := ⟨gk - 1, by omega⟩
    have HR := Lib.hid hR
    have HB1 := Lib.hid hB1
    have HB0 := Lib.hid hB0
    have HOWN := Lib.hid hown
    have HBel := Lib.hid hBel
    have HK := Lib.hid hk1
    have HF := Lib.hid hf
    clear hR hB1 hB0 hBel hown hk1 hf
    by_cases hex : lastF s.data.toList k = 93
    · obtain ⟨hlt, h93⟩ := lastF_93 hex (by omega)
      have hd := drop_cons (s := s) rfl hlt
      have t1 : ((lastF s.data.toList k : Int) != 93) = false := by simp [hex]
      have HR1 : Hid (rclsF (s.data.toList.length + 1) (s.data.toList.drop k0) [] = some (its, s.data.toList.drop (k + 1))) := by
        rw [HR.out, hd, u8_of_toNat h93]; simp [rclsF, Hid]
      clear hex h93 hd HR
      obtain ⟨ao, cap, rfl⟩ := ownsRow_form HOWN.out
      obtain ⟨a0, a1, f0, f1⟩ := blk2 HB1.out
      obtain ⟨b0, b1, g0, g1⟩ := blk2 HB0.out
      go_wp2_with (go_at_call 27; refine (last_any s _ (by omega) hs' _).mono ?_; rintro e w' ⟨rfl, rfl⟩)
      go_region
      go_wp2
      have hW := ((wrote_setCell HB0.out 0 (.int .i64 4)).trans (wrote_setCell (wrote_setCell HB0.out 0 (.int .i64 4)).at_ 1 (.slice ao its.length cap))).drew
      refine bodyPost_ret (results_row_tmp2 rfl _ _ _ 52 _ (0, 0) _ rfl hW.at_ Try.underlying52 rfl (by kernel_rfl)) rfl ⟨.slice ao its.length cap, k + 1, decide (0 < its.length), ?_, HBel.out.trans (hW.below (Nat.le_refl _)), rfl, by have := HS.out; omega, ?_⟩
      · refine tup3 rfl (iv (by omega)) rfl
      · rw [HR1.out]
        refine ⟨?_, fun _ => ⟨?_, ?_⟩⟩
        · cases its <;> simp
        · have := HS.out
          simp only [List.length_drop]
          omega
        · exact ownsRow_base (ownsRow_wrote HOWN.out hW (by omega)) (by omega)
    · have hhd : ¬ (s.data.toList.drop k).head? = some 93 := fun h => hex ((head_lastF 93 (by decide)).1 h)
      have t1 : ((lastF s.data.toList k : Int) != 93) = true := by rw [bne_iff_ne]; omega
      have hr1 := HR.out.trans (rclsF_go g _ its hhd)
      have HR0 := Lib.hid hr1
      clear hr1 HR hex hhd
      go_wp2_with (go_at_call 27; refine (last_any s _ (by omega) hs' _).mono ?_; rintro e w' ⟨rfl, rfl⟩)
      refine (member_any s _ (by omega) hs (by omega) _).mono ?_
      rintro e w1 ⟨lo, nx, ok, rfl, rfl, hok, hval, hlo, hnx⟩
      rw [Int.toNat_natCast] at hok hval hnx
      obtain ⟨c1, c2, c3⟩ := charF_bd (s.data.toList.drop k)
      by_cases hn : (charF (s.data.toList.drop k)).2 = 0
      · have HR1 : Hid (rclsF (s.data.toList.length + 1) (s.data.toList.drop k0) [] = none) := by rw [HR0.out, if_pos hn]; rfl
        obtain rfl : ok = false := by rw [hok]; simp [hn]
        clear hok hval c1 c2 c3 hn HR0
        go_wp2_with (first | (refine wpList_load_row rfl 52 _ rfl _ rfl 52 _ (0, 0) _ HB1.out Try.underlying52 rfl (by kernel_rfl) ?_) | (refine wpList_store_row rfl 52 _ _ rfl _ rfl 52 _ HB0.out (.agg #[.int .i64 4, sv]) rfl (by kernel_rfl) rfl (by obtain ⟨ao, cap, rfl⟩ := ownsRow_form HOWN.out; rfl) ?_; intro w2 hW2; have HW2 := Lib.hid hW2; clear hW2))
        refine bodyPost_ret (results_row_tmp2 rfl _ _ _ 52 _ (0, 0) _ rfl HW2.out.at_ Try.underlying52 rfl (by kernel_rfl)) rfl ⟨sv, k, false, rfl, HBel.out.trans (HW2.out.below (Nat.le_refl _)), (by obtain ⟨ao, cap, rfl⟩ := ownsRow_form HOWN.out; rfl), HK.out, ?_⟩
        rw [HR1.out]
      · obtain rfl : ok = true := by rw [hok]; simp [hn]
        obtain ⟨rfl, rfl⟩ := hval rfl
        clear hok hval
        have hr1 := HR0.out
        rw [if_neg hn] at hr1
        have HR1 := Lib.hid hr1
        clear hr1 HR0
        generalize charF (s.data.toList.drop k) = cn at *
        obtain ⟨c, n⟩ := cn
        simp only at c1 c2 c3 hn hlo hnx
        have hkn : k + n ≤ s.size := by have := HS.out; simp at c3; omega
        have hn1 : 1 ≤ n := by omega
        clear hn
        by_cases h45 : lastF s.data.toList (k + n) = 45
        · have h45' : ((lastF s.data.toList (k + n) : Int) == 45) = true := by simp [h45]
          have hhd : (List.drop n (s.data.toList.drop k)).head? = some 45 := by rw [List.drop_drop]; exact (head_lastF 45 (by decide)).2 h45
          obtain ⟨hlt', _⟩ := lastF_93 h45 (by omega)
          have hr1 := HR1.out
          rw [if_pos hhd] at hr1
          have HR3 := Lib.hid hr1
          clear hr1 HR1 hhd h45
          go_wp2_with (go_at_call 27; refine (last_any s _ (by omega) hs' _).mono ?_; rintro e w' ⟨rfl, rfl⟩)
          refine (member_any s _ (by omega) hs (by omega) _).mono ?_
          rintro e w1 ⟨lo2, nx2, ok2, rfl, rfl, hok2, hval2, hlo2, hnx2⟩
          rw [show ((k : Int) + n + 1).toNat = k + n + 1 by omega] at hok2 hval2 hnx2
          have hdd : s.data.toList.drop (k + n + 1) = List.drop (n + 1) (s.data.toList.drop k) := by rw [List.drop_drop]; congr 1
          rw [hdd] at hok2 hval2
          obtain ⟨d1, d2, d3⟩ := charF_bd (List.drop (n + 1) (s.data.toList.drop k))
          clear hdd
          generalize charF (List.drop (n + 1) (s.data.toList.drop k)) = dm at *
          obtain ⟨d, m⟩ := dm
          simp only at d1 d2 d3 hok2 hval2
          by_cases hm : m = 0
          · have HR1 : Hid (rclsF (s.data.toList.length + 1) (s.data.toList.drop k0) [] = none) := by rw [HR3.out, if_pos (.inl hm)]; rfl
            obtain rfl : ok2 = false := by rw [hok2]; simp [hm]
            clear hok2 hval2 hm HR3
            go_wp2_with (first | (refine wpList_load_row rfl 52 _ rfl _ rfl 52 _ (0, 0) _ HB1.out Try.underlying52 rfl (by kernel_rfl) ?_) | (refine wpList_store_row rfl 52 _ _ rfl _ rfl 52 _ HB0.out (.agg #[.int .i64 4, sv]) rfl (by kernel_rfl) rfl (by obtain ⟨ao, cap, rfl⟩ := ownsRow_form HOWN.out; rfl) ?_; intro w2 hW2; have HW2 := Lib.hid hW2; clear hW2))
            refine bodyPost_ret (results_row_tmp2 rfl _ _ _ 52 _ (0, 0) _ rfl HW2.out.at_ Try.underlying52 rfl (by kernel_rfl)) rfl ⟨sv, k, false, rfl, HBel.out.trans (HW2.out.below (Nat.le_refl _)), (by obtain ⟨ao, cap, rfl⟩ := ownsRow_form HOWN.out; rfl), HK.out, ?_⟩
            rw [HR1.out]
          · obtain rfl : ok2 = true := by rw [hok2]; simp [hm]
            obtain ⟨ed, en⟩ := hval2 rfl
            obtain rfl := ed.symm
            obtain rfl := en
            clear hok2 hval2
            have hkm : k + n + 1 + m ≤ s.size := by have := HS.out; simp at d3; omega
            by_cases hdc : d < c
            · have HR1 : Hid (rclsF (s.data.toList.length + 1) (s.data.toList.drop k0) [] = none) := by rw [HR3.out, if_pos (.inr hdc)]; rfl
              clear hm HR3
              go_wp2_with (first | (refine wpList_load_row rfl 52 _ rfl _ rfl 52 _ (0, 0) _ HB1.out Try.underlying52 rfl (by kernel_rfl) ?_) | (refine wpList_store_row rfl 52 _ _ rfl _ rfl 52 _ HB0.out (.agg #[.int .i64 4, sv]) rfl (by kernel_rfl) rfl (by obtain ⟨ao, cap, rfl⟩ := ownsRow_form HOWN.out; rfl) ?_; intro w2 hW2; have HW2 := Lib.hid hW2; clear hW2))
              refine bodyPost_ret (results_row_tmp2 rfl _ _ _ 52 _ (0, 0) _ rfl HW2.out.at_ Try.underlying52 rfl (by kernel_rfl)) rfl ⟨sv, k, false, rfl, HBel.out.trans (HW2.out.below (Nat.le_refl _)), (by obtain ⟨ao, cap, rfl⟩ := ownsRow_form HOWN.out; rfl), HK.out, ?_⟩
              rw [HR1.out]
            · have hr2 := HR3.out
              rw [if_neg (by simp; omega), List.drop_drop] at hr2
              have HR2 := Lib.hid hr2
              have hkl : k + (n + (1 + m)) ≤ s.data.toList.length := by have := HS.out; omega
              have hff : s.data.toList.length - (k + (n + (1 + m))) < g := by have := HF.out; omega
              clear hr2 HR3 hm
              obtain ⟨c0, c1, f0, f1⟩ := blk2 HB1.out
              go_wp2_with (first | (go_at_call 27; refine (last_any s _ (by omega) hs' _).mono ?_; rintro e w' ⟨rfl, rfl⟩) | (at_builtin; refine wpList_append2 rfl _ _ 50 rfl (w.heap.size + 2) 53 i0 (.agg #[.int .u8 0, .int .u8 0]) 2 2 Try.underlying50 HI.out rfl (by decide) _ _ _ rfl (HOWN.out.alloc _) ⟨wr.heap.size, 0, none⟩ 1 1 [.int .u8 (c : Nat), .int .u8 (d : Nat)] rfl rfl (cells_newAt rfl _ 53 (0, 0)) rfl (by unfold maxLen; omega) (by omega) (by simp; omega) ?_; intro v' w2 hown2 hgrow2 _; have HO2 := Lib.hid hown2; have HG2 := Lib.hid hgrow2; clear hown2 hgrow2; obtain ⟨ao', cap', rfl⟩ := ownsRow_form HO2.out; have hne : ∀ j, j < w.heap.size + 2 → some j ≠ sv.ownBlock := (fun j hj h => by have := (HOWN.out.lt j h.symm).1; omega); have HB1' : Hid (w2.heap[w.heap.size + 1]? = some (.cells #[.int .i64 4, sv] 52 (0, 0))) := (HG2.out.block _ (by simp; omega) (hne _ (by omega))).trans ((hp_old (by omega)).trans HB1.out); have HB0' : Hid (w2.heap[w.heap.size]? = some (.cells #[.int .i64 0, .slice none 0 0] 52 (0, 0))) := (HG2.out.block _ (by simp; omega) (hne _ (by omega))).trans ((hp_old (by omega)).trans HB0.out); have HNE := Lib.hid hne; clear hne; obtain ⟨c0', c1', f0', f1'⟩ := blk2 HB1'.out))
              go_roundg g
              case measure => omega
              case rel =>
                have hW := wrote_setCell HB1'.out 1 (.slice ao' (its.length + 1) cap')
                have hbel : Below w.heap.size w w2 := (HBel.out.alloc (by omega) _).grown HG2.out (by simp; omega) (fun j hj => by have := (HOWN.out.lt j hj).1; omega)
                have hsz2 : w.heap.size + 2 ≤ w2.heap.size := by have := HG2.out.size; simp at this; omega
                refine ⟨(k + (n + (1 + m))), its ++ [(c, d)], .slice ao' (its.length + 1) cap', by go_num, hkl, by simp; omega, HR2.out, by omega, hW.at_, (hW.block _ (by omega)).trans HB0'.out, ?_, hbel.trans (hW.below (by omega)), by rw [hW.size]; exact hsz2⟩
                rw [flatI_snoc, List.length_append]
                exact ownsRow_wrote HO2.out hW (by omega)
        · have h45' : ((lastF s.data.toList (k + n) : Int) == 45) = false := by rw [beq_eq_false_iff_ne]; omega
          have hhd : ¬ (List.drop n (s.data.toList.drop k)).head? = some 45 := by rw [List.drop_drop]; exact fun h => h45 ((head_lastF 45 (by decide)).1 h)
          have hr2 := HR1.out
          rw [if_neg hhd, List.drop_drop] at hr2
          have HR2 := Lib.hid hr2
          have hkl : k + n ≤ s.data.toList.length := by have := HS.out; omega
          have hff : s.data.toList.length - (k + n) < g := by have := HF.out; omega
          clear hr2 HR1 hhd h45
          obtain ⟨c0, c1, f0, f1⟩ := blk2 HB1.out
          go_wp2_with (first | (go_at_call 27; refine (last_any s _ (by omega) hs' _).mono ?_; rintro e w' ⟨rfl, rfl⟩) | (at_builtin; refine wpList_append2 rfl _ _ 50 rfl (w.heap.size + 2) 53 i0 (.agg #[.int .u8 0, .int .u8 0]) 2 2 Try.underlying50 HI.out rfl (by decide) _ _ _ rfl (HOWN.out.alloc _) ⟨wr.heap.size, 0, none⟩ 1 1 [.int .u8 (c : Nat), .int .u8 (c : Nat)] rfl rfl (cells_newAt rfl _ 53 (0, 0)) rfl (by unfold maxLen; omega) (by omega) (by simp; omega) ?_; intro v' w2 hown2 hgrow2 _; have HO2 := Lib.hid hown2; have HG2 := Lib.hid hgrow2; clear hown2 hgrow2; obtain ⟨ao', cap', rfl⟩ := ownsRow_form HO2.out; have hne : ∀ j, j < w.heap.size + 2 → some j ≠ sv.ownBlock := (fun j hj h => by have := (HOWN.out.lt j h.symm).1; omega); have HB1' : Hid (w2.heap[w.heap.size + 1]? = some (.cells #[.int .i64 4, sv] 52 (0, 0))) := (HG2.out.block _ (by simp; omega) (hne _ (by omega))).trans ((hp_old (by omega)).trans HB1.out); have HB0' : Hid (w2.heap[w.heap.size]? = some (.cells #[.int .i64 0, .slice none 0 0] 52 (0, 0))) := (HG2.out.block _ (by simp; omega) (hne _ (by omega))).trans ((hp_old (by omega)).trans HB0.out); have HNE := Lib.hid hne; clear hne; obtain ⟨c0', c1', f0', f1'⟩ := blk2 HB1'.out))
          go_roundg g
          case measure => omega
          case rel =>
            have hW := wrote_setCell HB1'.out 1 (.slice ao' (its.length + 1) cap')
            have hbel : Below w.heap.size w w2 := (HBel.out.alloc (by omega) _).grown HG2.out (by simp; omega) (fun j hj => by have := (HOWN.out.lt j hj).1; omega)
            have hsz2 : w.heap.size + 2 ≤ w2.heap.size := by have := HG2.out.size; simp at this; omega
            refine ⟨(k + n), its ++ [(c, c)], .slice ao' (its.length + 1) cap', by go_num, hkl, by simp; omega, HR2.out, by omega, hW.at_, (hW.block _ (by omega)).trans HB0'.out, ?_, hbel.trans (hW.below (by omega)), by rw [hW.size]; exact hsz2⟩
            rw [flatI_snoc, List.length_append]
            exact ownsRow_wrote HO2.out hW (by omega)
end Go.Proofs.Ytnmbabaihfdljaa
