/- The walks over the reference's Decimal, Line, Show. -/
import Derived.Test.YtngbjnjkcniabaaGreatDoorRr4
import Derived.Test.YtngbjnjkcniabaaGreatDoorRp9
import Derived.BigQuiet
namespace Go.Proofs.YtngbjnjkcniabaaGreatDoor
open Go.RowKit

def digs : ByteArray := ⟨#[48, 49, 50, 51, 52, 53, 54, 55, 56, 57]⟩
theorem digs_one (m : Nat) (hm : m < 10) : (digs.extract m (m + 1)).data.toList = [UInt8.ofNat (48 + m)] := by
  have : ∀ k : Fin 10, (digs.extract k.val (k.val + 1)).data.toList = [UInt8.ofNat (48 + k.val)] := by decide +kernel
  exact this ⟨m, hm⟩
theorem str_app (a b : ByteArray) : (a ++ b).data.toList = a.data.toList ++ b.data.toList := by simp
theorem str_lit2 {s : ByteArray} {l : List UInt8} (h : s.data.toList = l) : s = ⟨l.toArray⟩ := by
  cases s; simp at h; subst h; simp
theorem ret_str {s : ByteArray} {l : List UInt8} (h : s.data.toList = l) : Ending.returned (.string s) = .returned (.string ⟨l.toArray⟩) := by rw [← str_lit2 h]
theorem wrap_in {n : Int} (h1 : -9223372036854775808 ≤ n) (h2 : n ≤ 9223372036854775807) : wrap64 n = n := by unfold wrap64; omega

def DecRel (n0 : Nat) (w1 : World) (f : Nat) (t0 t3 : Value) (wr : World) : Prop :=
  ∃ (x : Nat) (s : ByteArray), t0 = .int .i64 (x : Nat) ∧ t3 = .string s ∧ Lib.decDigits n0 = Lib.decDigits x ++ s.data.toList ∧ x ≤ n0 ∧ x = f ∧ wr = w1

set_option maxRecDepth 100000 in
set_option maxHeartbeats 1600000 in
theorem decimal_any (n : Nat) (hn : n ≤ 1125899906842624) (w : World) : Calls Tryz.prog 23 #[.int .i64 (n : Nat)] w fun e w' => e = .returned (.string ⟨(Lib.decDigits n).toArray⟩) ∧ w' = w := by
  have HL : Hid ((Lib.decDigits n).length ≤ 21) := by
    have := itoa_small (n := (n : Int)) (by omega) (by omega)
    rw [Lib.itoa_nonneg] at this
    exact this
  go_enter Tryz.func23, Tryz.ntmps23
  go_wp2_with fail
  go_loopg [0, 3] n (DecRel n w)
  case atStart => exact ⟨n, ⟨#[]⟩, rfl, rfl, by simp, Nat.le_refl _, rfl, rfl⟩
  case round =>
    obtain ⟨x, s, rfl, rfl, hs, hx, rfl, rfl⟩ := hrel
    have hsz : s.size ≤ 21 := by
      have := HL.out
      rw [hs, List.length_append] at this
      rw [Lib.size_eq]; omega
    have HS := Lib.hid hs
    clear hs
    by_cases h9 : 9 < x
    · have hc9 : (9 : Int) < (x : Int) := by omega
      have hm0 : (x : Int) % 10 = ((x % 10 : Nat) : Int) := by omega
      have hd0 : wrap64 ((x : Int) / 10) = ((x / 10 : Nat) : Int) := by
        rw [show (x : Int) / 10 = ((x / 10 : Nat) : Int) by omega]
        exact wrap_in (by omega) (by omega)
      have hdv : (x : Int) / 10 = ((x / 10 : Nat) : Int) := by omega
      have HN : Hid (Lib.decDigits x = Lib.decDigits (x / 10) ++ [UInt8.ofNat (48 + x % 10)]) := by unfold Hid; rw [Lib.decDigits, dif_neg (by omega)]
      have hm9 : x % 10 < 10 := Nat.mod_lt _ (by decide)
      have hdl : x / 10 < x := by omega
      generalize x % 10 = m at *
      generalize x / 10 = y at *
      have q1 : IntKind.i64.wrap ((m : Int) + 1) = (m : Int) + 1 := IntWalk.i64_in _ (by omega)
      have q0 : wrap64 ((m : Int) + 1) = (m : Int) + 1 := wrap_in (by omega) (by omega)
      have q2 : (0 : Int) ≤ (m : Int) + 1 := by omega
      have q3 : ((m : Int) + 1).toNat = m + 1 := by omega
      have q4 : (m : Int) + 1 ≤ 10 := by omega
      have q5 : (m : Int) ≤ 10 := by omega
      have q6 : (m : Int) ≤ (m : Int) + 1 := by omega
      have q7 : (digs.extract m (m + 1)).size = 1 := by rw [Lib.size_eq, digs_one m hm9]; rfl
      have q8 : ¬ 9223372036854775807 < 1 + s.size := by omega
      have HD : Hid (((⟨#[48, 49, 50, 51, 52, 53, 54, 55, 56, 57]⟩ : ByteArray).extract m (m + 1)).data.toList = [UInt8.ofNat (48 + m)]) := digs_one m hm9
      go_wp2_with fail
      go_roundg y
      case measure => omega
      case rel => exact ⟨y, _, rfl, rfl, by rw [HS.out, HN.out, str_app, HD.out]; simp, by omega, rfl, rfl⟩
    · have hc9 : ¬ (9 : Int) < (x : Int) := by omega
      have hm9 : x < 10 := by omega
      have HN : Hid (Lib.decDigits x = [UInt8.ofNat (48 + x)]) := Lib.decDigits_one hm9
      have q0 : wrap64 ((x : Int) + 1) = (x : Int) + 1 := wrap_in (by omega) (by omega)
      have q2 : (0 : Int) ≤ (x : Int) + 1 := by omega
      have q3 : ((x : Int) + 1).toNat = x + 1 := by omega
      have q4 : (x : Int) + 1 ≤ 10 := by omega
      have q5 : (x : Int) ≤ 10 := by omega
      have q6 : (x : Int) ≤ (x : Int) + 1 := by omega
      have q7 : (digs.extract x (x + 1)).size = 1 := by rw [Lib.size_eq, digs_one x hm9]; rfl
      have q8 : ¬ 9223372036854775807 < 1 + s.size := by omega
      have HD : Hid (((⟨#[48, 49, 50, 51, 52, 53, 54, 55, 56, 57]⟩ : ByteArray).extract x (x + 1)).data.toList = [UInt8.ofNat (48 + x)]) := digs_one x hm9
      go_wp2_with fail
      go_ret
      exact ⟨ret_str (by rw [HS.out, HN.out, str_app, HD.out]), rfl⟩

set_option maxRecDepth 100000 in
set_option maxHeartbeats 1600000 in
theorem line_any (q : Qu) (hn : q.name.size ≤ 100000) (h0 : 0 ≤ q.til) (h1 : q.til ≤ 1125899906842624) (w : World) : Calls Tryz.prog 24 #[q.val] w fun e w' => e = .returned (.string ⟨(lineV q).toArray⟩) ∧ Below w.heap.size w w' := by
  obtain ⟨nm, st, ti⟩ := q
  dsimp only at hn h0 h1
  obtain ⟨t, rfl⟩ : ∃ t : Nat, ti = (t : Int) := ⟨ti.toNat, by omega⟩
  have HLV : Hid (lineV ⟨nm, st, (t : Nat)⟩ = (wordB st).data.toList ++ ([32] ++ (nm.data.toList ++ ([32] ++ (Lib.decDigits t ++ [10]))))) := by
    unfold Hid lineV
    rw [Lib.itoa_nonneg]
    congr 1
    unfold wordV wordB
    (repeat' split) <;> rfl
  obtain ⟨W1, hW1⟩ : ∃ W, w.alloc (.cells #[.string nm, .int .i64 st, .int .i64 (t : Nat)] 41 (0, 0)) = W := ⟨_, rfl⟩
  have HB1 : Hid (Below w.heap.size w W1) := by unfold Hid; rw [← hW1]; exact (Below.refl _ _).alloc (Nat.le_refl _) _
  have hk1 : W1.heap[w.heap.size]? = some (.cells #[.string nm, .int .i64 st, .int .i64 (t : Nat)] 41 (0, 0)) := by rw [← hW1]; exact hp_new rfl
  have c0 : W1.cell? ⟨w.heap.size, 0, none⟩ = some (.string nm) := cell_of_blk hk1 0
  have c1 : W1.cell? ⟨w.heap.size, 1, none⟩ = some (.int .i64 st) := cell_of_blk hk1 1
  have c2 : W1.cell? ⟨w.heap.size, 2, none⟩ = some (.int .i64 (t : Nat)) := cell_of_blk hk1 2
  clear hk1
  have WQ := fun nq => Lib.hid (Calls.quiet_of_same (rword_any st (W1.drewN nq)))
  have DQ := fun nq => Lib.hid (Calls.quiet_of_same (decimal_any t (by omega) (W1.drewN nq)))
  have hw : (wordB st).size ≤ 4 := by unfold wordB; (repeat' split) <;> decide
  have hd : (⟨(Lib.decDigits t).toArray⟩ : ByteArray).size ≤ 21 := by
    have := itoa_small (n := (t : Int)) (by omega) (by omega)
    rw [Lib.itoa_nonneg] at this
    rw [Lib.size_eq]
    simpa using this
  have HDL : Hid ((⟨(Lib.decDigits t).toArray⟩ : ByteArray).data.toList = Lib.decDigits t) := by unfold Hid; simp
  generalize (⟨(Lib.decDigits t).toArray⟩ : ByteArray) = ds at *
  generalize wordB st = wb at *
  have g1 : ¬ 9223372036854775807 < wb.size + 1 := by omega
  have g2 : ¬ 9223372036854775807 < wb.size + 1 + nm.size := by omega
  have g3 : ¬ 9223372036854775807 < wb.size + 1 + nm.size + 1 := by omega
  have g4 : ¬ 9223372036854775807 < wb.size + 1 + nm.size + 1 + ds.size := by omega
  have g5 : ¬ 9223372036854775807 < wb.size + 1 + nm.size + 1 + ds.size + 1 := by omega
  go_enter Tryz.func24, Tryz.ntmps24
  go_upto_region 1 with fail
  go_quiet ((first | (go_at_call 38; with_reducible exact (WQ _).out) | (go_at_call 23; with_reducible exact (DQ _).out)))
  go_wp2_with fail
  go_ret
  exact ⟨ret_str (by rw [HLV.out, ← HDL.out]; simp), ⟨HB1.out.os, HB1.out.tape, HB1.out.output, HB1.out.size, HB1.out.block⟩⟩

def RSRel (w1 : World) (rs : List Qu) (f : Nat) (t3 t4 : Value) (wr : World) : Prop :=
  ∃ k : Nat, t4 = .int .i64 (k : Nat) ∧ t3 = .string ⟨(linesV (rs.take k)).toArray⟩ ∧ k ≤ rs.length ∧ f = rs.length - k ∧ Below w1.heap.size w1 wr

set_option maxRecDepth 100000 in
set_option maxHeartbeats 1600000 in
theorem rshow_any (v : Value) (rs : List Qu) (w : World) (h : QuAt w v rs) (hc : SlC v) : Calls Tryz.prog 17 #[v] w (ShPost (showV rs) w) := by
  have H := Lib.hid h
  have VA := Lib.hid (rvalid_any v rs w h hc)
  obtain ⟨ao, cap, rfl⟩ := SlAt.form h
  clear h hc
  go_enter Tryz.func17, Tryz.ntmps17
  go_wp2_with fail
  refine VA.out.mono ?_
  rintro e w1 ⟨rfl, hb⟩
  have HB1 := Lib.hid hb
  clear hb VA
  by_cases hv : validR rs = 0
  · have HS : Hid (showV rs = linesV rs) := by unfold Hid showV; rw [if_pos hv]
    have t0 : (((validR rs : Nat) : Int) != 0) = false := by rw [hv]; rfl
    have hl := (validR_all hv).1
    have HALL := Lib.hid (vTo_all [] rs (validR_all hv).2)
    clear hv
    go_wp2_with fail
    go_loopg [3, 4] rs.length (RSRel w rs)
    case atStart => exact ⟨0, rfl, rfl, Nat.zero_le _, rfl, HB1.out⟩
    case round =>
      obtain ⟨k, rfl, rfl, hk, rfl, hbr⟩ := hrel
      have HBR := Lib.hid hbr
      have hbs := hbr.size
      clear hbr
      by_cases hlt : k < rs.length
      · obtain ⟨b, off, rfl, hbl, c0, c1, c2⟩ := QuAt.at3 (SlAt.below H.out HBR.out) hlt
        have hii : (k : Int) < (rs.length : Int) := by omega
        have HT := Lib.hid (linesV_take hlt)
        have HLN : Hid ((linesV (rs.take k)).length ≤ 2457600) := by
          have a := linesV_len (rs.take k) fun q hq => HALL.out q (List.mem_of_mem_take hq)
          rw [List.length_take] at a
          unfold Hid
          omega
        obtain ⟨hnb, hnr⟩ := HALL.out rs[k] (List.getElem_mem hlt)
        have h600 := lineV_len hnb hnr
        have hps := parts_len (bad_not hnb).1
        have LN := Lib.hid (line_any rs[k] (by rw [Lib.size_eq]; omega) (range_not hnr).1 (range_not hnr).2 wr)
        generalize rs[k] = q at *
        have hz1 : (⟨(linesV (rs.take k)).toArray⟩ : ByteArray).size ≤ 2457600 := by rw [Lib.size_eq]; simpa using HLN.out
        have hz2 : (⟨(lineV q).toArray⟩ : ByteArray).size ≤ 600 := by rw [Lib.size_eq]; simpa using h600
        have HJ : Hid ((⟨(linesV (rs.take k)).toArray⟩ : ByteArray) ++ ⟨(lineV q).toArray⟩ = ⟨(linesV (rs.take (k + 1))).toArray⟩) := by
          unfold Hid
          exact str_lit2 (by rw [str_app, HT.out])
        generalize (⟨(linesV (rs.take k)).toArray⟩ : ByteArray) = s1 at *
        generalize (⟨(lineV q).toArray⟩ : ByteArray) = s2 at *
        have g1 : ¬ 9223372036854775807 < s1.size + s2.size := by omega
        obtain ⟨nm, st, ti⟩ := q
        dsimp only at c0 c1 c2
        clear hnb hnr h600 hps HT HLN HALL
        as_aux_lemma =>
        go_wp2_with fail
        refine LN.out.mono ?_
        rintro e w3 ⟨rfl, hb⟩
        have HB3 := Lib.hid (HBR.out.trans (hb.mono hbs))
        clear hb LN
        go_wp2_with fail
        go_roundg (rs.length - (k + 1))
        case measure => omega
        case rel => exact ⟨k + 1, by go_num, by rw [HJ.out], by omega, rfl, HB3.out⟩
      · have he : k = rs.length := by omega
        subst he
        as_aux_lemma =>
        go_wp2_with fail
        go_ret
        exact ⟨_, rfl, by rw [HS.out, List.take_length], HBR.out⟩
  · have t0 : (((validR rs : Nat) : Int) != 0) = true := by rw [bne_iff_ne]; omega
    have HS : Hid (showV rs = []) := by unfold Hid showV; rw [if_neg hv]
    clear hv
    as_aux_lemma =>
    go_wp2_with fail
    go_ret
    exact ⟨_, rfl, by rw [HS.out], HB1.out⟩
end Go.Proofs.YtngbjnjkcniabaaGreatDoor
