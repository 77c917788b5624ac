/- The walks over the reference's parser: last, member, class. -/
import Derived.Test.YtghahghbahcpfaaGreatDoorVg2
import Derived.Deep.CutBlock
namespace Go.Proofs.YtghahghbahcpfaaGreatDoor.G6
open Go.RowKit
open Bs

/-- the byte at an index, or 0 -/
def lastF (l : List UInt8) (k : Nat) : Nat := (l.getD k 0).toNat
theorem lastF_lt (l : List UInt8) (k : Nat) : lastF l k < 256 := UInt8.toNat_lt _

set_option maxRecDepth 100000 in
set_option maxHeartbeats 400000 in
theorem last_any (s : ByteArray) (n : Int) (h0 : 0 ≤ n) (_hs : s.size ≤ maxLen) (w : World) :
    Calls Tryz.prog 73 #[.string s, .int .i64 n] w fun e w' => e = .returned (.int .u8 (lastF s.data.toList n.toNat : Nat)) ∧ w = w' := by
  obtain ⟨k, rfl⟩ := Int.eq_ofNat_of_zero_le h0
  by_cases h : k < s.size
  · have hf : (s.data.toList.getD k 0) = s[k] := (str_at rfl k h).symm
    have HF := Lib.hid hf
    clear hf
    go_enter Tryz.func73, Tryz.ntmps73
    go_wp2
    go_ret
    exact ⟨ret_int (by show ((s[k]).toNat : Int) = ((s.data.toList.getD k 0).toNat : Int); rw [HF.out]), rfl⟩
  · have hf : (s.data.toList.getD k 0) = 0 := by
      rw [List.getD_eq_getElem?_getD, List.getElem?_eq_none (by rw [← Lib.size_eq]; omega)]; rfl
    have HF := Lib.hid hf
    clear hf
    go_enter Tryz.func73, Tryz.ntmps73
    go_wp2
    go_ret
    exact ⟨ret_int (by show (0 : Int) = ((s.data.toList.getD k 0).toNat : Int); rw [HF.out]; rfl), rfl⟩

def MemberPost (l : List UInt8) (k : Nat) (w : World) (e : Ending) (w' : World) : Prop :=
  ∃ (lo nx : Nat) (ok : Bool), e = .returned (.tuple #[.int .u8 (lo : Nat), .int .i64 (nx : Nat), .bool ok]) ∧ w = w' ∧ ok = decide ((charF (l.drop k)).2 ≠ 0) ∧
    (ok = true → lo = (charF (l.drop k)).1 ∧ nx = k + (charF (l.drop k)).2) ∧ lo < 256 ∧ nx ≤ k + 2

theorem charF_nil {l : List UInt8} {k : Nat} (h : l.length ≤ k) : charF (l.drop k) = (0, 0) := by
  rw [List.drop_of_length_le h]; rfl

set_option maxRecDepth 100000 in
set_option maxHeartbeats 800000 in
theorem member_any (s : ByteArray) (n : Int) (h0 : 0 ≤ n) (hs : s.size ≤ 4096) (hn : n ≤ s.size + 1) (w : World) :
    Calls Tryz.prog 174 #[.string s, .int .i64 n] w (MemberPost s.data.toList n.toNat w) := by
  obtain ⟨k, rfl⟩ := Int.eq_ofNat_of_zero_le h0
  rw [Int.toNat_natCast]
  have hs' : s.size ≤ maxLen := by unfold maxLen; omega
  by_cases h : k < s.size
  · have hd := drop_cons (s := s) rfl h
    have hb := s[k].toNat_lt
    by_cases c92 : s[k].toNat = 92
    · have t1 : ((s[k].toNat : Int) == 92) = true := by simp [c92]
      by_cases h1 : k + 1 < s.size
      · have hd1 := drop_cons (s := s) rfl h1
        have hf : charF (s.data.toList.drop k) = (s[k + 1].toNat, 2) := by
          rw [hd, hd1]; simp [charF, c92]
        have hg : s.data.toList.getD (k + 1) 0 = s[k + 1] := (str_at rfl (k + 1) h1).symm
        have hb1 := s[k + 1].toNat_lt
        have HF := Lib.hid hf
        have HG := Lib.hid hg
        clear hd hd1 hf hg c92
        go_enter Tryz.func174, Tryz.ntmps174
        go_wp2_with (go_at_call 73; refine (last_any s _ (by omega) hs' _).mono ?_; rintro e w' ⟨rfl, rfl⟩)
        go_ret3
        refine ⟨s[k + 1].toNat, k + 2, true, ?_, rfl, by rw [HF.out]; rfl, fun _ => by rw [HF.out]; exact ⟨rfl, rfl⟩, hb1, by omega⟩
        refine tup3 (iv ?_) (iv (by omega)) ?_
        · rw [lastF, HG.out]
        · simp; omega
      · have hf : charF (s.data.toList.drop k) = (0, 0) := by
          rw [hd, List.drop_of_length_le (by rw [← Lib.size_eq]; omega)]; simp [charF, c92]
        have HF := Lib.hid hf
        clear hd hf c92
        have hbl := lastF_lt s.data.toList (k + 1)
        go_enter Tryz.func174, Tryz.ntmps174
        go_wp2_with (go_at_call 73; refine (last_any s _ (by omega) hs' _).mono ?_; rintro e w' ⟨rfl, rfl⟩)
        go_ret3
        refine ⟨lastF s.data.toList (k + 1), k + 2, false, ?_, rfl, by rw [HF.out]; rfl, (by simp), hbl, by omega⟩
        refine tup3 (iv ?_) (iv (by omega)) ?_
        · rfl
        · simp; omega
    · have t1 : ((s[k].toNat : Int) == 92) = false := by rw [beq_eq_false_iff_ne]; omega
      by_cases c93 : s[k].toNat = 93 ∨ s[k].toNat = 45
      · have hf : charF (s.data.toList.drop k) = (0, 0) := by rw [hd]; simp [charF, c93]
        have HF := Lib.hid hf
        have t2 : ((s[k].toNat : Int) == 93) = true ∨ (((s[k].toNat : Int) == 93) = false ∧ ((s[k].toNat : Int) == 45) = true) := by
          by_cases h : s[k].toNat = 93
          · left; simp [h]
          · right; refine ⟨by rw [beq_eq_false_iff_ne]; omega, by rw [beq_iff_eq]; omega⟩
        clear hd hf c93 c92
        rcases t2 with t2 | ⟨t2, t3⟩
        all_goals
          go_enter Tryz.func174, Tryz.ntmps174
          go_wp2
          go_ret3
          exact ⟨0, k, false, rfl, rfl, by rw [HF.out]; rfl, (by simp), by omega, by omega⟩
      · have hf : charF (s.data.toList.drop k) = (s[k].toNat, 1) := by rw [hd]; simp [charF, c93, c92]
        have HF := Lib.hid hf
        have t2 : ((s[k].toNat : Int) == 93) = false := by rw [beq_eq_false_iff_ne]; omega
        have t3 : ((s[k].toNat : Int) == 45) = false := by rw [beq_eq_false_iff_ne]; omega
        clear hd hf c93 c92
        go_enter Tryz.func174, Tryz.ntmps174
        go_wp2
        go_ret3
        exact ⟨s[k].toNat, k + 1, true, by simp, rfl, by rw [HF.out]; rfl, fun _ => by rw [HF.out]; exact ⟨rfl, rfl⟩, hb, by omega⟩
  · have hf : charF (s.data.toList.drop k) = (0, 0) := charF_nil (by rw [← Lib.size_eq]; omega)
    have HF := Lib.hid hf
    clear hf
    go_enter Tryz.func174, Tryz.ntmps174
    go_wp2
    go_ret3
    exact ⟨0, k, false, rfl, rfl, by rw [HF.out]; rfl, (by simp), by omega, by omega⟩

/-- the items of a class from here on, and what is left behind it -/
def rclsF : Nat → List UInt8 → List (Nat × Nat) → Option (List (Nat × Nat) × List UInt8)
  | 0, _, _ => none
  | f + 1, l, its =>
    if l.head? = some 93 then some (its, l.drop 1)
    else if (charF l).2 = 0 then none
    else if (l.drop (charF l).2).head? = some 45 then
      if (charF (l.drop ((charF l).2 + 1))).2 = 0 ∨ (charF (l.drop ((charF l).2 + 1))).1 < (charF l).1 then none
      else rclsF f (l.drop ((charF l).2 + (1 + (charF (l.drop ((charF l).2 + 1))).2))) (its ++ [((charF l).1, (charF (l.drop ((charF l).2 + 1))).1)])
    else rclsF f (l.drop (charF l).2) (its ++ [((charF l).1, (charF l).1)])

theorem rclsF_go (f : Nat) (l : List UInt8) (its : List (Nat × Nat)) (h : ¬ l.head? = some 93) :
    rclsF (f + 1) l its = if (charF l).2 = 0 then none
    else if (l.drop (charF l).2).head? = some 45 then
      if (charF (l.drop ((charF l).2 + 1))).2 = 0 ∨ (charF (l.drop ((charF l).2 + 1))).1 < (charF l).1 then none
      else rclsF f (l.drop ((charF l).2 + (1 + (charF (l.drop ((charF l).2 + 1))).2))) (its ++ [((charF l).1, (charF (l.drop ((charF l).2 + 1))).1)])
    else rclsF f (l.drop (charF l).2) (its ++ [((charF l).1, (charF l).1)]) := by
  rw [rclsF, if_neg h]

theorem rclsF_rest {f : Nat} : ∀ {l : List UInt8} {its its' : List (Nat × Nat)} {r : List UInt8}, rclsF f l its = some (its', r) → r.length + 1 ≤ l.length := by
  induction f with
  | zero => intro l its its' r h; cases h
  | succ f ih =>
    intro l its its' r h
    by_cases hh : l.head? = some 93
    · rw [rclsF, if_pos hh] at h
      simp only [Option.some.injEq, Prod.mk.injEq] at h
      cases l with
      | nil => cases hh
      | cons c l => rw [← h.2]; simp
    · rw [rclsF_go f l its hh] at h
      by_cases h1 : (charF l).2 = 0
      · rw [if_pos h1] at h; cases h
      · rw [if_neg h1] at h
        by_cases h2 : (l.drop (charF l).2).head? = some 45
        · rw [if_pos h2] at h
          split at h
          · cases h
          · have := ih h; simp at this; omega
        · rw [if_neg h2] at h
          have := ih h; simp at this; omega

def flatI (its : List (Nat × Nat)) : List Value := its.flatMap fun p => [.int .u8 (p.1 : Nat), .int .u8 (p.2 : Nat)]
theorem flatI_snoc (its : List (Nat × Nat)) (p : Nat × Nat) : flatI (its ++ [p]) = flatI its ++ [.int .u8 (p.1 : Nat), .int .u8 (p.2 : Nat)] := by simp [flatI]

def RClassPost (l : List UInt8) (k : Nat) (w : World) (e : Ending) (w' : World) : Prop :=
  ∃ (sv : Value) (nx : Nat) (ok : Bool), e = .returned (.tuple #[.agg #[.int .i64 4, sv], .int .i64 (nx : Nat), .bool ok]) ∧ Below w.heap.size w w' ∧ sv.oneCell' = true ∧ nx ≤ l.length ∧
    (match rclsF (l.length + 1) (l.drop k) [] with
      | none => ok = false
      | some (its, r) => ok = decide (its ≠ []) ∧ (ok = true → nx = l.length - r.length ∧ w'.ownsRow w.heap.size 203 2 sv its.length (flatI its)))

def RClsRel (w : World) (l : List UInt8) (R : Option (List (Nat × Nat) × List UInt8)) (f : Nat) (t1 : Value) (wr : World) : Prop :=
  ∃ (k : Nat) (its : List (Nat × Nat)) (sv : Value), t1 = .int .i64 (k : Nat) ∧ k ≤ l.length ∧ its.length ≤ k ∧ R = rclsF f (l.drop k) its ∧ l.length - k < f ∧
    wr.heap[w.heap.size + 1]? = some (.cells #[.int .i64 4, sv] 206 (0, 0)) ∧ wr.heap[w.heap.size]? = some (.cells #[.int .i64 0, .slice none 0 0] 206 (0, 0)) ∧
    wr.ownsRow (w.heap.size + 2) 203 2 sv its.length (flatI its) ∧ Below w.heap.size w wr ∧ w.heap.size + 2 ≤ wr.heap.size

theorem Tryz.infoG53 : (Tryz.prog.info? 203).map (fun i => (i.zero, i.size, i.bytes)) = some (some (.agg #[.int .u8 0, .int .u8 0]), 2, 2) := by kernel_rfl
theorem Tryz.infoG53' : ∃ i, Tryz.prog.info? 203 = some i ∧ i.zero = some (.agg #[.int .u8 0, .int .u8 0]) ∧ i.size = 2 ∧ i.bytes = 2 := info_parts Tryz.infoG53

theorem lastF_93 {s : ByteArray} {k c : Nat} (h : lastF s.data.toList k = c) (hc : c ≠ 0) : ∃ hk : k < s.size, s[k].toNat = c := by
  by_cases hk : k < s.size
  · refine ⟨hk, ?_⟩
    rw [str_at rfl k hk]; exact h
  · unfold lastF at h
    rw [List.getD_eq_getElem?_getD, List.getElem?_eq_none (by rw [← Lib.size_eq]; omega)] at h
    exact (hc h.symm).elim

theorem head_lastF {s : ByteArray} {k : Nat} (c : UInt8) (hc : c ≠ 0) : (s.data.toList.drop k).head? = some c ↔ lastF s.data.toList k = c.toNat := by
  by_cases hk : k < s.size
  · rw [drop_cons rfl hk]
    have : lastF s.data.toList k = s[k].toNat := by rw [str_at rfl k hk]; rfl
    rw [this]
    simp [UInt8.toNat_inj]
  · rw [List.drop_of_length_le (by rw [← Lib.size_eq]; omega)]
    unfold lastF
    rw [List.getD_eq_getElem?_getD, List.getElem?_eq_none (by rw [← Lib.size_eq]; omega)]
    constructor
    · intro h; cases h
    · intro h; exact (hc (by rw [← UInt8.toNat_inj, ← h]; rfl)).elim

set_option maxRecDepth 100000 in
set_option maxHeartbeats 1600000 in
theorem rclass_any (s : ByteArray) (n : Int) (h0 : 0 ≤ n) (hs : s.size ≤ 4096) (hn : n ≤ s.size) (w : World) :
    Calls Tryz.prog 145 #[.string s, .int .i64 n] w (RClassPost s.data.toList n.toNat w) := by
  obtain ⟨k0, rfl⟩ := Int.eq_ofNat_of_zero_le h0
  rw [Int.toNat_natCast]
  have hs' : s.size ≤ maxLen := by unfold maxLen; omega
  have HS := Lib.hid (Lib.size_eq s)
  obtain ⟨i0, hi⟩ := Tryz.infoG53'
  have HI := Lib.hid hi
  clear hi
  go_enter Tryz.func145, Tryz.ntmps145
  go_wp2_with fail
  go_loopg [1] (s.data.toList.length + 1) (RClsRel w s.data.toList (rclsF (s.data.toList.length + 1) (s.data.toList.drop k0) []))
  case atStart =>
    exact ⟨k0, [], .slice none 0 0, rfl, by rw [← HS.out]; omega, by simp, rfl, by omega, hp_new (by simp), by rw [hp_old (by simp)]; exact hp_new rfl, World.ownsRow_nil _ _ _ _, ((Below.refl _ _).alloc (Nat.le_refl _) _).alloc (by simp) _, by simp⟩
  case round =>
    obtain ⟨k, its, sv, rfl, hk1, hk2, hR, hf, hB1, hB0, hown, hBel, hsz⟩ := hrel
    have hks : k ≤ s.size := by have := HS.out; omega
    obtain ⟨g, rfl⟩ : ∃ g, gk = g + 1 := ⟨gk - 1, by omega⟩
    have HR := Lib.hid hR
    have HB1 := Lib.hid hB1
    have HB0 := Lib.hid hB0
    have HOWN := Lib.hid hown
    have HBel := Lib.hid hBel
    have HK := Lib.hid hk1
    have HF := Lib.hid hf
    clear hR hB1 hB0 hBel hown hk1 hf
    by_cases hex : lastF s.data.toList k = 93
    · obtain ⟨hlt, h93⟩ := lastF_93 hex (by omega)
      have hd := drop_cons (s := s) rfl hlt
      have t1 : ((lastF s.data.toList k : Int) != 93) = false := by simp [hex]
      have HR1 : Hid (rclsF (s.data.toList.length + 1) (s.data.toList.drop k0) [] = some (its, s.data.toList.drop (k + 1))) := by
        rw [HR.out, hd, u8_of_toNat h93]; simp [rclsF, Hid]
      clear hex h93 hd HR
      obtain ⟨ao, cap, rfl⟩ := ownsRow_form HOWN.out
      obtain ⟨a0, a1, f0, f1⟩ := blk2 HB1.out
      obtain ⟨b0, b1, g0, g1⟩ := blk2 HB0.out
      go_wp2_with (go_at_call 73; refine (last_any s _ (by omega) hs' _).mono ?_; rintro e w' ⟨rfl, rfl⟩)
      go_region
      go_wp2
      have hW := ((wrote_setCell HB0.out 0 (.int .i64 4)).trans (wrote_setCell (wrote_setCell HB0.out 0 (.int .i64 4)).at_ 1 (.slice ao its.length cap))).drew
      refine bodyPost_ret (results_row_tmp2 rfl _ _ _ 206 _ (0, 0) _ rfl hW.at_ Tryz.underlying206 rfl (by kernel_rfl)) rfl ⟨.slice ao its.length cap, k + 1, decide (0 < its.length), ?_, HBel.out.trans (hW.below (Nat.le_refl _)), rfl, by have := HS.out; omega, ?_⟩
      · refine tup3 rfl (iv (by omega)) rfl
      · rw [HR1.out]
        refine ⟨?_, fun _ => ⟨?_, ?_⟩⟩
        · cases its <;> simp
        · have := HS.out
          simp only [List.length_drop]
          omega
        · exact ownsRow_base (ownsRow_wrote HOWN.out hW (by omega)) (by omega)
    · have hhd : ¬ (s.data.toList.drop k).head? = some 93 := fun h => hex ((head_lastF 93 (by decide)).1 h)
      have t1 : ((lastF s.data.toList k : Int) != 93) = true := by rw [bne_iff_ne]; omega
      have hr1 := HR.out.trans (rclsF_go g _ its hhd)
      have HR0 := Lib.hid hr1
      clear hr1 HR hex hhd
      go_wp2_with (go_at_call 73; refine (last_any s _ (by omega) hs' _).mono ?_; rintro e w' ⟨rfl, rfl⟩)
      refine (member_any s _ (by omega) hs (by omega) _).mono ?_
      rintro e w1 ⟨lo, nx, ok, rfl, rfl, hok, hval, hlo, hnx⟩
      rw [Int.toNat_natCast] at hok hval hnx
      obtain ⟨c1, c2, c3⟩ := charF_bd (s.data.toList.drop k)
      by_cases hn : (charF (s.data.toList.drop k)).2 = 0
      · have HR1 : Hid (rclsF (s.data.toList.length + 1) (s.data.toList.drop k0) [] = none) := by rw [HR0.out, if_pos hn]; rfl
        obtain rfl : ok = false := by rw [hok]; simp [hn]
        clear hok hval c1 c2 c3 hn HR0
        go_wp2_with (first | (refine wpList_load_row rfl 206 _ rfl _ rfl 206 _ (0, 0) _ HB1.out Tryz.underlying206 rfl (by kernel_rfl) ?_) | (refine wpList_store_row rfl 206 _ _ rfl _ rfl 206 _ HB0.out (.agg #[.int .i64 4, sv]) rfl (by kernel_rfl) rfl (by obtain ⟨ao, cap, rfl⟩ := ownsRow_form HOWN.out; rfl) ?_; intro w2 hW2; have HW2 := Lib.hid hW2; clear hW2))
        refine bodyPost_ret (results_row_tmp2 rfl _ _ _ 206 _ (0, 0) _ rfl HW2.out.at_ Tryz.underlying206 rfl (by kernel_rfl)) rfl ⟨sv, k, false, rfl, HBel.out.trans (HW2.out.below (Nat.le_refl _)), (by obtain ⟨ao, cap, rfl⟩ := ownsRow_form HOWN.out; rfl), HK.out, ?_⟩
        rw [HR1.out]
      · obtain rfl : ok = true := by rw [hok]; simp [hn]
        obtain ⟨rfl, rfl⟩ := hval rfl
        clear hok hval
        have hr1 := HR0.out
        rw [if_neg hn] at hr1
        have HR1 := Lib.hid hr1
        clear hr1 HR0
        generalize charF (s.data.toList.drop k) = cn at *
        obtain ⟨c, n⟩ := cn
        simp only at c1 c2 c3 hn hlo hnx
        have hkn : k + n ≤ s.size := by have := HS.out; simp at c3; omega
        have hn1 : 1 ≤ n := by omega
        clear hn
        by_cases h45 : lastF s.data.toList (k + n) = 45
        · have h45' : ((lastF s.data.toList (k + n) : Int) == 45) = true := by simp [h45]
          have hhd : (List.drop n (s.data.toList.drop k)).head? = some 45 := by rw [List.drop_drop]; exact (head_lastF 45 (by decide)).2 h45
          obtain ⟨hlt', _⟩ := lastF_93 h45 (by omega)
          have hr1 := HR1.out
          rw [if_pos hhd] at hr1
          have HR3 := Lib.hid hr1
          clear hr1 HR1 hhd h45
          go_wp2_with (go_at_call 73; refine (last_any s _ (by omega) hs' _).mono ?_; rintro e w' ⟨rfl, rfl⟩)
          refine (member_any s _ (by omega) hs (by omega) _).mono ?_
          rintro e w1 ⟨lo2, nx2, ok2, rfl, rfl, hok2, hval2, hlo2, hnx2⟩
          rw [show ((k : Int) + n + 1).toNat = k + n + 1 by omega] at hok2 hval2 hnx2
          have hdd : s.data.toList.drop (k + n + 1) = List.drop (n + 1) (s.data.toList.drop k) := by rw [List.drop_drop]; congr 1
          rw [hdd] at hok2 hval2
          obtain ⟨d1, d2, d3⟩ := charF_bd (List.drop (n + 1) (s.data.toList.drop k))
          clear hdd
          generalize charF (List.drop (n + 1) (s.data.toList.drop k)) = dm at *
          obtain ⟨d, m⟩ := dm
          simp only at d1 d2 d3 hok2 hval2
          by_cases hm : m = 0
          · have HR1 : Hid (rclsF (s.data.toList.length + 1) (s.data.toList.drop k0) [] = none) := by rw [HR3.out, if_pos (.inl hm)]; rfl
            obtain rfl : ok2 = false := by rw [hok2]; simp [hm]
            clear hok2 hval2 hm HR3
            go_wp2_with (first | (refine wpList_load_row rfl 206 _ rfl _ rfl 206 _ (0, 0) _ HB1.out Tryz.underlying206 rfl (by kernel_rfl) ?_) | (refine wpList_store_row rfl 206 _ _ rfl _ rfl 206 _ HB0.out (.agg #[.int .i64 4, sv]) rfl (by kernel_rfl) rfl (by obtain ⟨ao, cap, rfl⟩ := ownsRow_form HOWN.out; rfl) ?_; intro w2 hW2; have HW2 := Lib.hid hW2; clear hW2))
            refine bodyPost_ret (results_row_tmp2 rfl _ _ _ 206 _ (0, 0) _ rfl HW2.out.at_ Tryz.underlying206 rfl (by kernel_rfl)) rfl ⟨sv, k, false, rfl, HBel.out.trans (HW2.out.below (Nat.le_refl _)), (by obtain ⟨ao, cap, rfl⟩ := ownsRow_form HOWN.out; rfl), HK.out, ?_⟩
            rw [HR1.out]
          · obtain rfl : ok2 = true := by rw [hok2]; simp [hm]
            obtain ⟨ed, en⟩ := hval2 rfl
            obtain rfl := ed.symm
            obtain rfl := en
            clear hok2 hval2
            have hkm : k + n + 1 + m ≤ s.size := by have := HS.out; simp at d3; omega
            by_cases hdc : d < c
            · have HR1 : Hid (rclsF (s.data.toList.length + 1) (s.data.toList.drop k0) [] = none) := by rw [HR3.out, if_pos (.inr hdc)]; rfl
              clear hm HR3
              go_wp2_with (first | (refine wpList_load_row rfl 206 _ rfl _ rfl 206 _ (0, 0) _ HB1.out Tryz.underlying206 rfl (by kernel_rfl) ?_) | (refine wpList_store_row rfl 206 _ _ rfl _ rfl 206 _ HB0.out (.agg #[.int .i64 4, sv]) rfl (by kernel_rfl) rfl (by obtain ⟨ao, cap, rfl⟩ := ownsRow_form HOWN.out; rfl) ?_; intro w2 hW2; have HW2 := Lib.hid hW2; clear hW2))
              refine bodyPost_ret (results_row_tmp2 rfl _ _ _ 206 _ (0, 0) _ rfl HW2.out.at_ Tryz.underlying206 rfl (by kernel_rfl)) rfl ⟨sv, k, false, rfl, HBel.out.trans (HW2.out.below (Nat.le_refl _)), (by obtain ⟨ao, cap, rfl⟩ := ownsRow_form HOWN.out; rfl), HK.out, ?_⟩
              rw [HR1.out]
            · have hr2 := HR3.out
              rw [if_neg (by simp; omega), List.drop_drop] at hr2
              have HR2 := Lib.hid hr2
              have hkl : k + (n + (1 + m)) ≤ s.data.toList.length := by have := HS.out; omega
              have hff : s.data.toList.length - (k + (n + (1 + m))) < g := by have := HF.out; omega
              clear hr2 HR3 hm
              obtain ⟨c0, c1, f0, f1⟩ := blk2 HB1.out
              go_wp2_with (first | (go_at_call 73; refine (last_any s _ (by omega) hs' _).mono ?_; rintro e w' ⟨rfl, rfl⟩) | (at_builtin; refine wpList_append2 rfl _ _ 204 rfl (w.heap.size + 2) 203 i0 (.agg #[.int .u8 0, .int .u8 0]) 2 2 Tryz.underlying204 HI.out rfl (by decide) _ _ _ rfl (HOWN.out.alloc _) ⟨wr.heap.size, 0, none⟩ 1 1 [.int .u8 (c : Nat), .int .u8 (d : Nat)] rfl rfl (cells_newAt rfl _ 203 (0, 0)) rfl (by unfold maxLen; omega) (by omega) (by simp; omega) ?_; intro v' w2 hown2 hgrow2 _; have HO2 := Lib.hid hown2; have HG2 := Lib.hid hgrow2; clear hown2 hgrow2; obtain ⟨ao', cap', rfl⟩ := ownsRow_form HO2.out; have hne : ∀ j, j < w.heap.size + 2 → some j ≠ sv.ownBlock := (fun j hj h => by have := (HOWN.out.lt j h.symm).1; omega); have HB1' : Hid (w2.heap[w.heap.size + 1]? = some (.cells #[.int .i64 4, sv] 206 (0, 0))) := (HG2.out.block _ (by simp; omega) (hne _ (by omega))).trans ((hp_old (by omega)).trans HB1.out); have HB0' : Hid (w2.heap[w.heap.size]? = some (.cells #[.int .i64 0, .slice none 0 0] 206 (0, 0))) := (HG2.out.block _ (by simp; omega) (hne _ (by omega))).trans ((hp_old (by omega)).trans HB0.out); have HNE := Lib.hid hne; clear hne; obtain ⟨c0', c1', f0', f1'⟩ := blk2 HB1'.out))
              go_roundg g
              case measure => omega
              case rel =>
                have hW := wrote_setCell HB1'.out 1 (.slice ao' (its.length + 1) cap')
                have hbel : Below w.heap.size w w2 := (HBel.out.alloc (by omega) _).grown HG2.out (by simp; omega) (fun j hj => by have := (HOWN.out.lt j hj).1; omega)
                have hsz2 : w.heap.size + 2 ≤ w2.heap.size := by have := HG2.out.size; simp at this; omega
                refine ⟨(k + (n + (1 + m))), its ++ [(c, d)], .slice ao' (its.length + 1) cap', by go_num, hkl, by simp; omega, HR2.out, by omega, hW.at_, (hW.block _ (by omega)).trans HB0'.out, ?_, hbel.trans (hW.below (by omega)), by rw [hW.size]; exact hsz2⟩
                rw [flatI_snoc, List.length_append]
                exact ownsRow_wrote HO2.out hW (by omega)
        · have h45' : ((lastF s.data.toList (k + n) : Int) == 45) = false := by rw [beq_eq_false_iff_ne]; omega
          have hhd : ¬ (List.drop n (s.data.toList.drop k)).head? = some 45 := by rw [List.drop_drop]; exact fun h => h45 ((head_lastF 45 (by decide)).1 h)
          have hr2 := HR1.out
          rw [if_neg hhd, List.drop_drop] at hr2
          have HR2 := Lib.hid hr2
          have hkl : k + n ≤ s.data.toList.length := by have := HS.out; omega
          have hff : s.data.toList.length - (k + n) < g := by have := HF.out; omega
          clear hr2 HR1 hhd h45
          obtain ⟨c0, c1, f0, f1⟩ := blk2 HB1.out
          go_wp2_with (first | (go_at_call 73; refine (last_any s _ (by omega) hs' _).mono ?_; rintro e w' ⟨rfl, rfl⟩) | (at_builtin; refine wpList_append2 rfl _ _ 204 rfl (w.heap.size + 2) 203 i0 (.agg #[.int .u8 0, .int .u8 0]) 2 2 Tryz.underlying204 HI.out rfl (by decide) _ _ _ rfl (HOWN.out.alloc _) ⟨wr.heap.size, 0, none⟩ 1 1 [.int .u8 (c : Nat), .int .u8 (c : Nat)] rfl rfl (cells_newAt rfl _ 203 (0, 0)) rfl (by unfold maxLen; omega) (by omega) (by simp; omega) ?_; intro v' w2 hown2 hgrow2 _; have HO2 := Lib.hid hown2; have HG2 := Lib.hid hgrow2; clear hown2 hgrow2; obtain ⟨ao', cap', rfl⟩ := ownsRow_form HO2.out; have hne : ∀ j, j < w.heap.size + 2 → some j ≠ sv.ownBlock := (fun j hj h => by have := (HOWN.out.lt j h.symm).1; omega); have HB1' : Hid (w2.heap[w.heap.size + 1]? = some (.cells #[.int .i64 4, sv] 206 (0, 0))) := (HG2.out.block _ (by simp; omega) (hne _ (by omega))).trans ((hp_old (by omega)).trans HB1.out); have HB0' : Hid (w2.heap[w.heap.size]? = some (.cells #[.int .i64 0, .slice none 0 0] 206 (0, 0))) := (HG2.out.block _ (by simp; omega) (hne _ (by omega))).trans ((hp_old (by omega)).trans HB0.out); have HNE := Lib.hid hne; clear hne; obtain ⟨c0', c1', f0', f1'⟩ := blk2 HB1'.out))
          go_roundg g
          case measure => omega
          case rel =>
            have hW := wrote_setCell HB1'.out 1 (.slice ao' (its.length + 1) cap')
            have hbel : Below w.heap.size w w2 := (HBel.out.alloc (by omega) _).grown HG2.out (by simp; omega) (fun j hj => by have := (HOWN.out.lt j hj).1; omega)
            have hsz2 : w.heap.size + 2 ≤ w2.heap.size := by have := HG2.out.size; simp at this; omega
            refine ⟨(k + n), its ++ [(c, c)], .slice ao' (its.length + 1) cap', by go_num, hkl, by simp; omega, HR2.out, by omega, hW.at_, (hW.block _ (by omega)).trans HB0'.out, ?_, hbel.trans (hW.below (by omega)), by rw [hW.size]; exact hsz2⟩
            rw [flatI_snoc, List.length_append]
            exact ownsRow_wrote HO2.out hW (by omega)
end Go.Proofs.YtghahghbahcpfaaGreatDoor.G6
/- The walk over the reference's Elems. -/
namespace Go.Proofs.YtghahghbahcpfaaGreatDoor.G6
open Go.RowKit
open Bs

/-- an element of a pattern, as the reference has it -/
structure RE where
  kind : Nat
  items : List (Nat × Nat)

/-- the element with which a pattern begins, and its length; F: fuel for the class -/
def relemF (F : Nat) (l : List UInt8) : Option (RE × Nat) :=
  match l with
  | [] => none
  | c :: r =>
    if c.toNat = 42 then (if r.head? = some 42 then some (⟨1, []⟩, 2) else some (⟨2, []⟩, 1))
    else if c.toNat = 63 then some (⟨3, []⟩, 1)
    else if c.toNat = 91 then (match rclsF F r [] with
      | none => none
      | some (its, rest) => if its = [] then none else some (⟨4, its⟩, (c :: r).length - rest.length))
    else if c.toNat = 92 then (match r with | [] => none | d :: _ => some (⟨5, [(d.toNat, d.toNat)]⟩, 2))
    else some (⟨5, [(c.toNat, c.toNat)]⟩, 1)

def relemsF (F : Nat) : Nat → List UInt8 → Option (List RE)
  | 0, _ => none
  | f + 1, l => if l = [] then some [] else match relemF F l with
    | none => none
    | some (E, n) => (relemsF F f (l.drop n)).map (E :: ·)

def rels (l : List UInt8) : Option (List RE) := relemsF (l.length + 1) (l.length + 1) l

def flatP (ps : List (RE × Value)) : List Value := ps.flatMap fun p => [.int .i64 (p.1.kind : Nat), p.2]
theorem flatP_snoc (ps : List (RE × Value)) (p : RE × Value) : flatP (ps ++ [p]) = flatP ps ++ [.int .i64 (p.1.kind : Nat), p.2] := by simp [flatP]

/-- the value v reads as the elements of ps -/
def ElemsAt (w : World) (B : Nat) (v : Value) (ps : List (RE × Value)) : Prop :=
  w.ownsRow B 206 2 v ps.length (flatP ps) ∧ ∀ p ∈ ps, w.ownsRow B 203 2 p.2 p.1.items.length (flatI p.1.items) ∧ (p.2.ownBlock = none ∨ p.2.ownBlock ≠ v.ownBlock)

def ElemsPost (l : List UInt8) (w : World) (e : Ending) (w' : World) : Prop :=
  Below w.heap.size w w' ∧
  (if 4096 < l.length then e = .returned (.tuple #[.slice none 0 0, .bool false])
   else match rels l with
    | none => e = .returned (.tuple #[.slice none 0 0, .bool false])
    | some L => ∃ v ps, e = .returned (.tuple #[v, .bool true]) ∧ ElemsAt w' w.heap.size v ps ∧ ps.map (·.1) = L ∧ L.length ≤ l.length)

def RElRel (w : World) (l : List UInt8) (f : Nat) (t4 t5 : Value) (wr : World) : Prop :=
  ∃ (k : Nat) (ps : List (RE × Value)), t5 = .int .i64 (k : Nat) ∧ k ≤ l.length ∧ ps.length ≤ k ∧ rels l = (relemsF (l.length + 1) f (l.drop k)).map (ps.map (·.1) ++ ·) ∧ l.length - k < f ∧
    ElemsAt wr w.heap.size t4 ps ∧ Below w.heap.size w wr ∧ w.heap.size ≤ wr.heap.size

def CutA (wr : World) (c k : Nat) (s6 s7 s8 : Value) (wx : World) : Prop :=
  ∃ b sv, s6 = .pointer (some ⟨b, 0, none⟩) ∧ s7 = .int .i64 ((k : Int) + 1) ∧ s8 = .bool true ∧ wx.heap[b]? = some (.cells #[.int .i64 5, sv] 206 (0, 0)) ∧
    wx.ownsRow wr.heap.size 203 2 sv 1 [.int .u8 (c : Nat), .int .u8 (c : Nat)] ∧ wr.heap.size ≤ b ∧ Below wr.heap.size wr wx ∧ wr.heap.size + 2 ≤ wx.heap.size

def CutB (wr : World) (F : Nat) (l : List UInt8) (k b : Nat) (s7 s8 : Value) (wx : World) : Prop :=
  ∃ (nx : Nat) (ok : Bool), s7 = .int .i64 (nx : Nat) ∧ s8 = .bool ok ∧ Below wr.heap.size wr wx ∧ wr.heap.size ≤ wx.heap.size ∧
    (match relemF F (l.drop k) with
      | none => ok = false
      | some (E, n) => ok = true ∧ nx = k + n ∧ 1 ≤ n ∧ nx ≤ l.length ∧ ∃ sv, wx.heap[b]? = some (.cells #[.int .i64 (E.kind : Nat), sv] 206 (0, 0)) ∧ wx.ownsRow wr.heap.size 203 2 sv E.items.length (flatI E.items))

theorem cutA_1 (wr : World) (c k : Nat) (o : Obj) (h : o = .cells #[.int .u8 (c : Nat), .int .u8 (c : Nat)] 203) :
    CutA wr c k (.pointer (some ⟨wr.heap.size + 1, 0, none⟩)) (.int .i64 ((k : Int) + 1)) (.bool true) ((wr.alloc o).alloc (.cells #[.int .i64 5, .slice (some ⟨wr.heap.size, 0, none⟩) 1 1] 206)) := by
  subst h
  refine ⟨_, _, rfl, rfl, rfl, hp_new (by simp), ⟨rfl, .inr ⟨wr.heap.size, 1, _, rfl, Nat.le_refl _, (hp_old (by simp)).trans (hp_new rfl), by omega, by decide, rfl, rfl⟩⟩, by omega, ((Below.refl _ _).alloc (Nat.le_refl _) _).alloc (by simp) _, by simp⟩
theorem cutA_2 (wr : World) (c k : Nat) (o : Obj) (h : o = .cells #[.int .i64 5, .slice (some ⟨wr.heap.size + 1, 0, none⟩) 1 1] 206) :
    CutA wr c k (.pointer (some ⟨wr.heap.size, 0, none⟩)) (.int .i64 ((k : Int) + 1)) (.bool true) ((wr.alloc o).alloc (.cells #[.int .u8 (c : Nat), .int .u8 (c : Nat)] 203)) := by
  subst h
  refine ⟨_, _, rfl, rfl, rfl, (hp_old (by simp)).trans (hp_new rfl), ⟨rfl, .inr ⟨wr.heap.size + 1, 1, _, rfl, by omega, hp_new (by simp), by omega, by decide, rfl, rfl⟩⟩, by omega, ((Below.refl _ _).alloc (Nat.le_refl _) _).alloc (by simp) _, by simp⟩

theorem CutA.drew {wr : World} {c k : Nat} {s6 s7 s8 : Value} {wx : World} (h : CutA wr c k s6 s7 s8 wx) : CutA wr c k s6 s7 s8 wx.drew := by
  obtain ⟨b, sv, h1, h2, h3, h4, h5, h6, h7, h8⟩ := h
  exact ⟨b, sv, h1, h2, h3, h4, h5, h6, h7.drew, h8⟩

theorem Tryz.infoG52 : (Tryz.prog.info? 206).map (fun i => (i.zero, i.size, i.bytes)) = some (some (.agg #[.int .i64 0, .slice none 0 0]), 2, 32) := by kernel_rfl
theorem Tryz.infoG52' : ∃ i, Tryz.prog.info? 206 = some i ∧ i.zero = some (.agg #[.int .i64 0, .slice none 0 0]) ∧ i.size = 2 ∧ i.bytes = 32 := info_parts Tryz.infoG52

set_option maxRecDepth 100000 in
set_option maxHeartbeats 1600000 in
theorem elems_any (s : ByteArray) (hs : s.size ≤ maxLen) (w : World) :
    Calls Tryz.prog 113 #[.string s] w (ElemsPost s.data.toList w) := by
  have HS := Lib.hid (Lib.size_eq s)
  unfold maxLen at hs
  by_cases hlong : 4096 < s.size
  · have HF : Hid (4096 < s.data.toList.length) := by rw [← HS.out]; exact hlong
    have h2 : (4096 : Int) < s.size := by omega
    go_enter Tryz.func113, Tryz.ntmps113
    go_wp2
    go_ret2
    refine ⟨Below.refl _ _, ?_⟩
    rw [if_pos HF.out]; rfl
  · have HL : Hid (¬ 4096 < s.data.toList.length) := by rw [← HS.out]; exact hlong
    have h2 : ¬ (4096 : Int) < s.size := by omega
    have h3 : s.size ≤ 4096 := by omega
    obtain ⟨i0, hi⟩ := Tryz.infoG52'
    have HI := Lib.hid hi
    clear hi
    go_enter Tryz.func113, Tryz.ntmps113
    go_wp2_with fail
    go_loopg [4, 5] (s.data.toList.length + 1) (RElRel w s.data.toList)
    case atStart =>
      exact ⟨0, [], rfl, by omega, by simp, by simp [rels], by omega, ⟨World.ownsRow_nil _ _ _ _, by simp⟩, Below.refl _ _, Nat.le_refl _⟩
    case round =>
      obtain ⟨k, ps, rfl, hk1, hk2, hR, hf, hown, hbel, hsz⟩ := hrel
      have hks : k ≤ s.size := by have := HS.out; omega
      obtain ⟨g, rfl⟩ : ∃ g, gk = g + 1 := ⟨gk - 1, by omega⟩
      have HR := Lib.hid hR
      have HOWN := Lib.hid hown
      have HBel := Lib.hid hbel
      have HF := Lib.hid hf
      have HK := Lib.hid hk1
      clear hR hown hbel hf hk1
      by_cases hend : k = s.size
      · have HR1 : Hid (rels s.data.toList = some (ps.map (·.1))) := by
          rw [HR.out, List.drop_of_length_le (by rw [← HS.out]; omega)]; simp [relemsF, Hid]
        have hlt : ¬ ((k : Int) < s.size) := by omega
        clear hend
        go_wp2
        go_ret2
        refine ⟨HBel.out, ?_⟩
        rw [if_neg HL.out, HR1.out]
        refine ⟨u4, ps, rfl, HOWN.out, rfl, ?_⟩
        have := HS.out; simp; omega
      · have hlt : k < s.size := by omega
        clear hend
        go_upto_region 6 with fail
        go_cut [6, 7, 8] (fun s6 s7 s8 wx => CutA wr s[k].toNat k s6 s7 s8 wx)
        case first =>
          go_region
          all_goals
            go_wp2_with fail
            go_meet
            case rel => first | exact (cutA_1 _ _ _ _ rfl).drew | exact (cutA_2 _ _ _ _ rfl).drew
        case rest =>
          obtain ⟨b, sv, rfl, rfl, rfl, hbox, hrow, hbr, hbel2, hsz2⟩ := hcut
          have HBOX := Lib.hid hbox
          have HROW := Lib.hid hrow
          have HB2 := Lib.hid hbel2
          clear hbox hrow hbel2
          have hbw : b < wc.heap.size := (Array.getElem?_eq_some_iff.1 HBOX.out).1
          have hd := drop_cons (s := s) rfl hlt
          have hbyte := s[k].toNat_lt
          go_upto_block 2 with fail
          go_cut [7, 8] (fun s7 s8 wx => CutB wr (s.data.toList.length + 1) s.data.toList k b s7 s8 wx)
          case first =>
            by_cases c42 : s[k].toNat = 42
            · have t1 : ((s[k].toNat : Int) == 42) = true := by simp [c42]
              by_cases hr : lastF s.data.toList (k + 1) = 42
              · have t2 : ((lastF s.data.toList (k + 1) : Int) == 42) = true := by simp [hr]
                have HE : Hid (relemF (s.data.toList.length + 1) (s.data.toList.drop k) = some (⟨1, []⟩, 2)) := by
                  rw [hd]; simp [relemF, c42, (head_lastF 42 (by decide)).2 hr, Hid, -List.head?_drop]
                obtain ⟨hlt1, _⟩ := lastF_93 hr (by omega)
                clear hd c42 hr
                go_wp2_with (first | (go_at_call 73; refine (last_any s _ (by omega) (by unfold maxLen; omega) _).mono ?_; rintro e w' ⟨rfl, rfl⟩) | (refine wpList_store_row rfl 206 _ _ rfl _ rfl 206 _ HBOX.out (.agg #[.int .i64 2, .slice none 0 0]) rfl (by kernel_rfl) rfl rfl ?_; intro w2 hw2; have Hw2 := Lib.hid hw2; clear hw2) | (refine wpList_store_row rfl 206 _ _ rfl _ rfl 206 _ Hw2.out.at_ (.agg #[.int .i64 1, .slice none 0 0]) rfl (by kernel_rfl) rfl rfl ?_; intro w3 hw3; have Hw3 := Lib.hid hw3; clear hw3))
                go_meet
                case rel =>
                  have hb1 := (HB2.out.trans (Hw2.out.below hbr)).trans (Hw3.out.below hbr)
                  refine ⟨k + 2, true, by go_num, rfl, hb1, by rw [Hw3.out.size, Hw2.out.size]; omega, ?_⟩
                  rw [HE.out]
                  exact ⟨rfl, rfl, by omega, by have := HS.out; omega, _, Hw3.out.at_, World.ownsRow_nil _ _ _ _⟩
              · have t2 : ((lastF s.data.toList (k + 1) : Int) == 42) = false := by rw [beq_eq_false_iff_ne]; omega
                have HE : Hid (relemF (s.data.toList.length + 1) (s.data.toList.drop k) = some (⟨2, []⟩, 1)) := by
                  have : ¬ (s.data.toList.drop (k + 1)).head? = some 42 := fun h => hr ((head_lastF 42 (by decide)).1 h)
                  rw [hd]; simp [relemF, c42, this, Hid, -List.head?_drop]
                clear hd c42 hr
                go_wp2_with (first | (go_at_call 73; refine (last_any s _ (by omega) (by unfold maxLen; omega) _).mono ?_; rintro e w' ⟨rfl, rfl⟩) | (refine wpList_store_row rfl 206 _ _ rfl _ rfl 206 _ HBOX.out (.agg #[.int .i64 2, .slice none 0 0]) rfl (by kernel_rfl) rfl rfl ?_; intro w2 hw2; have Hw2 := Lib.hid hw2; clear hw2))
                go_meet
                case rel =>
                  refine ⟨k + 1, true, by go_num, rfl, HB2.out.trans (Hw2.out.below hbr), by rw [Hw2.out.size]; omega, ?_⟩
                  rw [HE.out]
                  exact ⟨rfl, rfl, by omega, by have := HS.out; omega, _, Hw2.out.at_, World.ownsRow_nil _ _ _ _⟩
            · have t1 : ((s[k].toNat : Int) == 42) = false := by rw [beq_eq_false_iff_ne]; omega
              by_cases c63 : s[k].toNat = 63
              · have t2 : ((s[k].toNat : Int) == 63) = true := by simp [c63]
                have HE : Hid (relemF (s.data.toList.length + 1) (s.data.toList.drop k) = some (⟨3, []⟩, 1)) := by
                  rw [hd]; simp [relemF, c63, Hid]
                clear hd c42 c63
                go_wp2_with (first | (refine wpList_store_row rfl 206 _ _ rfl _ rfl 206 _ HBOX.out (.agg #[.int .i64 3, .slice none 0 0]) rfl (by kernel_rfl) rfl rfl ?_; intro w2 hw2; have Hw2 := Lib.hid hw2; clear hw2))
                go_meet
                case rel =>
                  refine ⟨k + 1, true, by go_num, rfl, HB2.out.trans (Hw2.out.below hbr), by rw [Hw2.out.size]; omega, ?_⟩
                  rw [HE.out]
                  exact ⟨rfl, rfl, by omega, by have := HS.out; omega, _, Hw2.out.at_, World.ownsRow_nil _ _ _ _⟩
              · have t2 : ((s[k].toNat : Int) == 63) = false := by rw [beq_eq_false_iff_ne]; omega
                by_cases c91 : s[k].toNat = 91
                · have t3 : ((s[k].toNat : Int) == 91) = true := by simp [c91]
                  have HE : Hid (relemF (s.data.toList.length + 1) (s.data.toList.drop k) = match rclsF (s.data.toList.length + 1) (s.data.toList.drop (k + 1)) [] with
                      | none => none
                      | some (its, rest) => if its = [] then none else some (⟨4, its⟩, (s[k] :: s.data.toList.drop (k + 1)).length - rest.length)) := by
                    rw [hd]; simp [relemF, c91, Hid]
                  clear hd c42 c63 c91
                  go_wp2_with fail
                  refine (rclass_any s _ (by omega) h3 (by omega) _).mono ?_
                  rintro e w1 ⟨sv1, nx, ok, rfl, hb1, hsv1, hnx, hm⟩
                  rw [show ((k : Int) + 1).toNat = k + 1 by omega] at hm
                  have HM := Lib.hid hm
                  have HBOX1 : Hid (w1.heap[b]? = some (.cells #[.int .i64 5, sv] 206 (0, 0))) := (hb1.block b hbw).trans HBOX.out
                  have HB3 := Lib.hid (HB2.out.trans (hb1.mono (by omega)))
                  have hsz3 := hb1.size
                  clear hm hb1
                  go_wp2_with (first | (refine wpList_store_row rfl 206 _ _ rfl _ rfl 206 _ HBOX1.out (.agg #[.int .i64 4, sv1]) rfl (by kernel_rfl) rfl (by show (true && (sv1.oneCell' && true)) = true; rw [hsv1]; rfl) ?_; intro w2 hw2; have Hw2 := Lib.hid hw2; clear hw2))
                  go_meet
                  case rel =>
                    refine ⟨nx, ok, rfl, rfl, HB3.out.trans (Hw2.out.below hbr), by rw [Hw2.out.size]; omega, ?_⟩
                    rw [HE.out]
                    have hm := HM.out
                    cases hc : rclsF (s.data.toList.length + 1) (s.data.toList.drop (k + 1)) [] with
                    | none => rw [hc] at hm; exact hm
                    | some x =>
                      obtain ⟨its, rest⟩ := x
                      rw [hc] at hm
                      simp only at hm ⊢
                      by_cases hits : its = []
                      · rw [if_pos hits]; rw [hm.1]; simp [hits]
                      · rw [if_neg hits]
                        obtain rfl : ok = true := by rw [hm.1]; simp [hits]
                        obtain ⟨h1, h2⟩ := hm.2 rfl
                        have hr := rclsF_rest hc
                        have hS := HS.out
                        simp only [List.length_drop, List.length_cons] at hr ⊢
                        exact ⟨trivial, by omega, by omega, by omega, sv1, Hw2.out.at_, ownsRow_base (ownsRow_wrote h2 Hw2.out hbw) (by omega)⟩
                · have t3 : ((s[k].toNat : Int) == 91) = false := by rw [beq_eq_false_iff_ne]; omega
                  by_cases c92 : s[k].toNat = 92
                  · have t4 : ((s[k].toNat : Int) == 92) = true := by simp [c92]
                    obtain ⟨x0, x1, f0, f1⟩ := blk2 HBOX.out
                    have HE : Hid (relemF (s.data.toList.length + 1) (s.data.toList.drop k) = match s.data.toList.drop (k + 1) with | [] => none | d :: _ => some (⟨5, [(d.toNat, d.toNat)]⟩, 2)) := by
                      rw [hd]; simp [relemF, c92, Hid]
                    clear hd c42 c63 c91 c92
                    go_wp2_with (go_at_call 73; refine (last_any s _ (by omega) (by unfold maxLen; omega) _).mono ?_; rintro e w' ⟨rfl, rfl⟩)
                    go_meet
                    case rel =>
                      have hW := wrote_setCell HBOX.out 1 (.slice (some ⟨wc.heap.size, 0, none⟩) 1 1)
                      have hbel : Below wr.heap.size wr (wc.setCell ⟨b, 1, none⟩ (.slice (some ⟨wc.heap.size, 0, none⟩) 1 1)) := HB2.out.trans (hW.below hbr)
                      refine ⟨k + 2, decide ((k : Int) + 1 < s.size), by go_num, rfl, hbel.alloc (by rw [hW.size]; omega) _, by simp; omega, ?_⟩
                      rw [HE.out]
                      by_cases h1 : k + 1 < s.size
                      · have hd1 := drop_cons (s := s) rfl h1
                        have hl1 : lastF s.data.toList (k + 1) = s[k + 1].toNat := by rw [str_at rfl (k + 1) h1]; rfl
                        rw [hd1, hl1]
                        refine ⟨by simp; omega, rfl, by omega, by have := HS.out; omega, .slice (some ⟨wc.heap.size, 0, none⟩) 1 1, (hp_old (by rw [hW.size]; exact hbw)).trans hW.at_, rfl, .inr ⟨wc.heap.size, 1, _, rfl, by omega, hp_new (by simp), Nat.le_refl _, by decide, rfl, rfl⟩⟩
                      · rw [List.drop_of_length_le (by rw [← HS.out]; omega)]
                        simp; omega
                  · have t4 : ((s[k].toNat : Int) == 92) = false := by rw [beq_eq_false_iff_ne]; omega
                    have HE : Hid (relemF (s.data.toList.length + 1) (s.data.toList.drop k) = some (⟨5, [(s[k].toNat, s[k].toNat)]⟩, 1)) := by
                      rw [hd]; simp [relemF, c42, c63, c91, c92, Hid]
                    clear hd c42 c63 c91 c92
                    go_wp2
                    go_meet
                    case rel =>
                      refine ⟨k + 1, true, by go_num, rfl, HB2.out, by omega, ?_⟩
                      rw [HE.out]
                      exact ⟨rfl, rfl, by omega, by have := HS.out; omega, sv, HBOX.out, HROW.out⟩
          case rest =>
            clear hd HBOX HROW HB2 hbw
            obtain ⟨wo, rfl⟩ : ∃ wo : World, wo = wc := ⟨_, rfl⟩
            obtain ⟨nx, ok, rfl, rfl, hbel3, hsz3, hm⟩ := hcut
            have HB3 := Lib.hid hbel3
            clear hbel3
            cases ok with
            | false =>
              have HR1 : Hid (rels s.data.toList = none) := by
                have hne : ¬ s.data.toList.drop k = [] := by rw [drop_cons rfl hlt]; simp
                rw [HR.out, relemsF, if_neg hne]
                cases he : relemF (s.data.toList.length + 1) (s.data.toList.drop k) with
                | none => rfl
                | some x => rw [he] at hm; cases hm.1
              clear hm HR
              go_wp2
              go_ret2
              refine ⟨HBel.out.trans (HB3.out.mono hsz), ?_⟩
              rw [if_neg HL.out, HR1.out]; rfl
            | true =>
              cases he : relemF (s.data.toList.length + 1) (s.data.toList.drop k) with
              | none => rw [he] at hm; cases hm
              | some x =>
                obtain ⟨E, n⟩ := x
                rw [he] at hm
                obtain ⟨_, rfl, hn1, hnl, sv2, hbox, hrow⟩ := hm
                have HR1 : Hid (rels s.data.toList = (relemsF (s.data.toList.length + 1) g (s.data.toList.drop (k + n))).map ((ps.map (·.1) ++ [E]) ++ ·)) := by
                  have hne : ¬ s.data.toList.drop k = [] := by rw [drop_cons rfl hlt]; simp
                  rw [HR.out, relemsF, if_neg hne, he]
                  simp [Option.map_map, Function.comp_def, List.drop_drop, Hid]
                have HBOX := Lib.hid hbox
                have HROW := Lib.hid hrow
                clear hbox hrow he HR
                obtain ⟨ao, cap, hu4⟩ := ownsRow_form HOWN.out.1
                subst hu4
                obtain ⟨ao2, cap2, rfl⟩ := ownsRow_form HROW.out
                go_wp2_with (first | (refine wpList_load_row rfl 206 _ rfl _ rfl 206 _ (0, 0) _ HBOX.out Tryz.underlying206 rfl (by kernel_rfl) ?_) | (at_builtin; refine wpList_append2 rfl _ _ 173 rfl w.heap.size 206 i0 (.agg #[.int .i64 0, .slice none 0 0]) 2 32 Tryz.underlying173 HI.out rfl (by decide) _ _ _ rfl ((ownsRow_below HOWN.out.1 (HB3.out.mono (Nat.le_refl _))).alloc _) ⟨wo.heap.size, 0, none⟩ 1 1 [.int .i64 (E.kind : Nat), .slice ao2 E.items.length cap2] rfl rfl (cells_newAt rfl _ 206 (0, 0)) rfl (by unfold maxLen; omega) (by omega) (by simp; omega) ?_; intro v' w2 hown2 hgrow2 hwhere; have HO2 := Lib.hid hown2; have HG2 := Lib.hid hgrow2; have HWH := Lib.hid hwhere; clear hown2 hgrow2 hwhere))
                go_roundg g
                case measure => omega
                case rel =>
                  have hsvlt := HROW.out.lt
                  have holt : ∀ j, (Value.slice ao ps.length cap).ownBlock = some j → w.heap.size ≤ j ∧ j < wr.heap.size := HOWN.out.1.lt
                  have hbel4 : Below wr.heap.size wr (wo.alloc (.cells #[.int .i64 (E.kind : Nat), .slice ao2 E.items.length cap2] 206)) := HB3.out.alloc hsz3 _
                  refine ⟨k + n, ps ++ [(E, .slice ao2 E.items.length cap2)], by go_num, hnl, by simp; omega, by rw [HR1.out]; simp, by have := HF.out; omega, ⟨?_, ?_⟩, ?_, ?_⟩
                  · rw [flatP_snoc, List.length_append]; exact HO2.out
                  · intro p hp
                    rcases List.mem_append.1 hp with hp | hp
                    · obtain ⟨hr, hd⟩ := HOWN.out.2 p hp
                      have hpl := hr.lt
                      refine ⟨(ownsRow_below hr hbel4).kept HG2.out hd, ?_⟩
                      rcases hd with hd | hd
                      · exact .inl hd
                      · right
                        rcases HWH.out with h | h
                        · rw [h]; exact hd
                        · rw [h]
                          intro e
                          have := (hpl _ e).2
                          simp at this; omega
                    · simp at hp
                      subst hp
                      have hne : (Value.slice ao2 E.items.length cap2).ownBlock = none ∨ (Value.slice ao2 E.items.length cap2).ownBlock ≠ (Value.slice ao ps.length cap).ownBlock := by
                        cases h : (Value.slice ao2 E.items.length cap2).ownBlock with
                        | none => exact .inl rfl
                        | some j =>
                          right
                          intro e
                          have h1 := (hsvlt j h).1
                          have h2 := (holt j e.symm).2
                          omega
                      refine ⟨ownsRow_base ((HROW.out.alloc _).kept HG2.out hne) hsz, ?_⟩
                      rcases hne with hne | hne
                      · exact .inl hne
                      · right
                        rcases HWH.out with h | h
                        · rw [h]; exact hne
                        · rw [h]
                          intro e
                          have := (hsvlt _ e).2
                          simp at this; omega
                  · exact (HBel.out.trans (hbel4.mono hsz)).grown HG2.out (by simp; omega) (fun j hj => (holt j hj).1)
                  · have := HG2.out.size; simp at this; omega
end Go.Proofs.YtghahghbahcpfaaGreatDoor.G6
/- The walks over the reference's Valid, many, fits. -/
namespace Go.Proofs.YtghahghbahcpfaaGreatDoor.G6
open Go.RowKit
open Bs

def rvalidF (l : List UInt8) : Nat := if 4096 < l.length then 3 else if (rels l).isSome then 0 else 5

def RE.many (e : RE) : Bool := e.kind == 1 || e.kind == 2

set_option maxRecDepth 100000 in
set_option maxHeartbeats 400000 in
theorem many_any (E : RE) (sv : Value) (w : World) :
    Calls Tryz.prog 146 #[.agg #[.int .i64 (E.kind : Nat), sv]] w fun e w' => e = .returned (.bool E.many) ∧ Below w.heap.size w w' := by
  have HM : Hid (E.many = (((E.kind : Nat) : Int) == 1 || ((E.kind : Nat) : Int) == 2)) := by
    unfold RE.many Hid
    congr 1 <;> (rw [Bool.eq_iff_iff, beq_iff_eq, beq_iff_eq]; omega)
  go_enter Tryz.func146, Tryz.ntmps146
  go_wp2
  all_goals
    go_ret
    refine ⟨ret_bool (Eq.trans ?_ HM.out.symm), (Below.refl _ _).alloc (Nat.le_refl _) _⟩
    first | rfl | simp [*]

def RE.fits (e : RE) (c : Nat) : Bool :=
  if e.kind = 1 then true else if e.kind ≠ 5 ∧ c = 47 then false else if e.kind = 2 ∨ e.kind = 3 then true else e.items.any fun p => decide (p.1 ≤ c ∧ c ≤ p.2)

theorem flatI_len (p : Nat × Nat) : ([Value.int .u8 (p.1 : Nat), .int .u8 (p.2 : Nat)]).length = 2 := rfl

theorem items_at {w : World} {base : Nat} {sv : Value} {its : List (Nat × Nat)} (h : w.ownsRow base 203 2 sv its.length (flatI its)) {k : Nat} (hk : k < its.length) :
    ∃ g cap, sv = .slice (some ⟨g, 0, none⟩) its.length cap ∧ base ≤ g ∧ g < w.heap.size ∧ w.cell? ⟨g, k * 2, none⟩ = some (.int .u8 (its[k].1 : Nat)) ∧ w.cell? ⟨g, k * 2 + 1, none⟩ = some (.int .u8 (its[k].2 : Nat)) := by
  obtain ⟨g, cap, h1, h2, h3, h4, h5⟩ := ownsRow_at (f := fun p : Nat × Nat => [Value.int .u8 (p.1 : Nat), .int .u8 (p.2 : Nat)]) h flatI_len (by decide) hk
  exact ⟨g, cap, h1, h2, h3, h5 0 _ rfl, h5 1 _ rfl⟩

def FitsRel (its : List (Nat × Nat)) (c : Nat) (R : Bool) (t5 : Value) : Prop :=
  ∃ j, t5 = .int .i64 (j : Nat) ∧ j ≤ its.length ∧ R = (its.drop j).any fun p => decide (p.1 ≤ c ∧ c ≤ p.2)

set_option maxRecDepth 100000 in
set_option maxHeartbeats 800000 in
theorem fits_any (E : RE) (sv : Value) (base : Nat) (c : Nat) (_hc : c < 256) (w : World) (hrow : w.ownsRow base 203 2 sv E.items.length (flatI E.items)) (hlen : E.items.length ≤ 4096) :
    Calls Tryz.prog 147 #[.agg #[.int .i64 (E.kind : Nat), sv], .int .u8 (c : Nat)] w fun e w' => e = .returned (.bool (E.fits c)) ∧ Below w.heap.size w w' := by
  by_cases h1 : E.kind = 1
  · have t1 : (((E.kind : Nat) : Int) == 1) = true := by simp [h1]
    have HF : Hid (E.fits c = true) := by unfold RE.fits; rw [if_pos h1]; rfl
    clear h1
    go_enter Tryz.func147, Tryz.ntmps147
    go_wp2
    go_ret
    exact ⟨by rw [HF.out]; rfl, (Below.refl _ _).alloc (Nat.le_refl _) _⟩
  · have t1 : (((E.kind : Nat) : Int) == 1) = false := by rw [beq_eq_false_iff_ne]; omega
    by_cases h5 : E.kind ≠ 5 ∧ c = 47
    · obtain ⟨h5, h47⟩ := h5
      have t2 : (((E.kind : Nat) : Int) != 5) = true := by rw [bne_iff_ne]; omega
      have t3 : ((c : Int) == 47) = true := by simp [h47]
      have HF : Hid (E.fits c = false) := by unfold RE.fits; rw [if_neg h1, if_pos ⟨h5, h47⟩]; rfl
      clear h1 h5 h47
      go_enter Tryz.func147, Tryz.ntmps147
      go_wp2
      go_ret
      exact ⟨by rw [HF.out]; rfl, (Below.refl _ _).alloc (Nat.le_refl _) _⟩
    · have t2 : (((E.kind : Nat) : Int) != 5) = false ∨ ((((E.kind : Nat) : Int) != 5) = true ∧ ((c : Int) == 47) = false) := by
        by_cases h : E.kind = 5
        · left; simp [h]
        · right; refine ⟨by rw [bne_iff_ne]; omega, by rw [beq_eq_false_iff_ne]; intro h'; exact h5 ⟨h, by omega⟩⟩
      by_cases h23 : E.kind = 2 ∨ E.kind = 3
      · have t3 : (((E.kind : Nat) : Int) == 2) = true ∨ ((((E.kind : Nat) : Int) == 2) = false ∧ (((E.kind : Nat) : Int) == 3) = true) := by
          by_cases h : E.kind = 2
          · left; simp [h]
          · right; exact ⟨by rw [beq_eq_false_iff_ne]; omega, by rw [beq_iff_eq]; omega⟩
        have HF : Hid (E.fits c = true) := by unfold RE.fits; rw [if_neg h1, if_neg h5, if_pos h23]; rfl
        clear h1 h5 h23
        rcases t2 with t2 | ⟨t2, t2'⟩ <;> rcases t3 with t3 | ⟨t3, t3'⟩
        all_goals
          go_enter Tryz.func147, Tryz.ntmps147
          go_wp2
          go_ret
          exact ⟨by rw [HF.out]; rfl, (Below.refl _ _).alloc (Nat.le_refl _) _⟩
      · have t3 : (((E.kind : Nat) : Int) == 2) = false := by rw [beq_eq_false_iff_ne]; omega
        have t4 : (((E.kind : Nat) : Int) == 3) = false := by rw [beq_eq_false_iff_ne]; omega
        have HF : Hid (E.fits c = E.items.any fun p => decide (p.1 ≤ c ∧ c ≤ p.2)) := by unfold RE.fits; rw [if_neg h1, if_neg h5, if_neg h23]; rfl
        obtain ⟨ao, cap, hsv⟩ := ownsRow_form hrow
        subst hsv
        have HROW := Lib.hid hrow
        clear h1 h5 h23 hrow
        rcases t2 with t2 | ⟨t2, t2'⟩
        all_goals
          go_enter Tryz.func147, Tryz.ntmps147
          go_wp2_with fail
          go_loop [5] (FitsRel E.items c (E.items.any fun p => decide (p.1 ≤ c ∧ c ≤ p.2))) (fun t => E.items.length - (intOf t).toNat)
          case atStart => exact ⟨0, rfl, Nat.zero_le _, by simp⟩
          case round =>
            obtain ⟨j, rfl, hj, hR⟩ := hrel
            by_cases hlt : j < E.items.length
            · obtain ⟨g, cap', hsv, hbg, hgw, hc0, hc1⟩ := items_at HROW.out hlt
              injection hsv with e1 e2 e3
              subst e1
              subst e3
              rw [List.drop_eq_getElem_cons hlt, List.any_cons] at hR
              generalize E.items[j] = p at *
              have HR := Lib.hid hR
              clear hR
              by_cases hp1 : p.1 ≤ c
              · by_cases hp2 : c ≤ p.2
                · have HR1 : Hid (E.fits c = true) := by rw [HF.out, HR.out]; simp [hp1, hp2, Hid]
                  go_wp2
                  go_ret
                  exact ⟨by rw [HR1.out]; rfl, (Below.refl _ _).alloc (Nat.le_refl _) _⟩
                · have HR1 : Hid ((E.items.any fun p => decide (p.1 ≤ c ∧ c ≤ p.2)) = (E.items.drop (j + 1)).any fun p => decide (p.1 ≤ c ∧ c ≤ p.2)) := by rw [HR.out]; simp [hp2, Hid]
                  go_wp2
                  go_round
                  case rel => exact ⟨j + 1, by go_num, by omega, HR1.out⟩
                  case measure => simp [intOf]; omega
              · have HR1 : Hid ((E.items.any fun p => decide (p.1 ≤ c ∧ c ≤ p.2)) = (E.items.drop (j + 1)).any fun p => decide (p.1 ≤ c ∧ c ≤ p.2)) := by rw [HR.out]; simp [hp1, Hid]
                go_wp2
                go_round
                case rel => exact ⟨j + 1, by go_num, by omega, HR1.out⟩
                case measure => simp [intOf]; omega
            · have HR1 : Hid (E.fits c = false) := by rw [HF.out, hR, List.drop_of_length_le (by omega)]; rfl
              clear hR
              go_wp2
              go_ret
              exact ⟨by rw [HR1.out]; rfl, (Below.refl _ _).alloc (Nat.le_refl _) _⟩
end Go.Proofs.YtghahghbahcpfaaGreatDoor.G6
