/- The walks over package digest: round and Mix. -/
import Derived.Test.YtghahghbahcpfaaGreatDoorVa1
import Derived.Test.YtghahghbahcpfaaGreatDoorProg
import Derived.Test.YtghahghbahcpfaaGreatDoorVa2
namespace Go.Proofs.YtghahghbahcpfaaGreatDoor
open Go.RowKit

theorem rnd_eq {r k : Nat} (i : Nat) (hr : r < 4294967296) (hk : k < 4294967296) : bits BinOp.xor IntKind.u32 ((bits BinOp.xor IntKind.u32 (r : Int) (k : Int) * 2654435761 + (i : Int)) % 4294967296) ((bits BinOp.xor IntKind.u32 (r : Int) (k : Int) * 2654435761 + (i : Int)) % 4294967296 / 65536) = ((rndN r k i : Nat) : Int) := by
  rw [u32_xor_nat r k hr hk]
  obtain ⟨t, ht⟩ : ∃ t, ((r ^^^ k) * 2654435761 + i) % 4294967296 = t := ⟨_, rfl⟩
  have h1 : (((r ^^^ k : Nat) : Int) * 2654435761 + (i : Int)) % 4294967296 = (t : Int) := by omega
  have h2 : ((t : Int)) / 65536 = ((t / 65536 : Nat) : Int) := by omega
  rw [h1, h2, u32_xor_nat _ _ (by omega) (by omega)]
  unfold rndN
  rw [ht]
theorem round_any (r k i : Nat) (a b c : Int) (ha : a = (r : Nat)) (hb : b = (k : Nat)) (hc : c = (i : Nat)) (hr : r < 4294967296) (hk : k < 4294967296) (w : World) :
    Calls Tryz.prog 143 #[.int .u32 a, .int .u32 b, .int .u32 c] w fun e w' => e = .returned (.int .u32 (rndN r k i : Nat)) ∧ w' = w := by
  subst ha hb hc
  have H := Lib.hid (rnd_eq i hr hk)
  clear hr hk
  go_enter Tryz.func143, Tryz.ntmps143
  go_wp2
  go_ret
  exact ⟨ret_int H.out, rfl⟩
def MixRel (key x : Nat) (w : World) (f : Nat) (t5 t6 t14 : Value) (wr : World) : Prop :=
  ∃ i : Nat, t14 = .int .i64 (i : Nat) ∧ i ≤ 4 ∧ f = 4 - i ∧ t5 = .int .u32 ((mixTo key x i).1 : Nat) ∧ t6 = .int .u32 ((mixTo key x i).2 : Nat) ∧ wr = w
theorem join32 {l r : Nat} (hl : l < 4294967296) (hr : r < 4294967296) : bits BinOp.or IntKind.u64 ((l : Int) * 4294967296) (r : Int) = ((l * 4294967296 + r : Nat) : Int) := by
  rw [show (l : Int) * 4294967296 = ((l * 4294967296 : Nat) : Int) by omega, u64_or_nat _ _ (by omega) (by omega), nat_join 32 _ _ (by omega) hr]
set_option maxRecDepth 100000 in
set_option maxHeartbeats 1600000 in
theorem mix_any (key x : Nat) (hk : key < 18446744073709551616) (hx : x < 18446744073709551616) (w : World) :
    Calls Tryz.prog 109 #[.int .u64 (key : Nat), .int .u64 (x : Nat)] w fun e w' => e = .returned (.int .u64 (mixN key x : Nat)) ∧ w' = w := by
  have HL := fun i => Lib.hid (mixTo_lt (key := key) hx i)
  have HK := fun i => Lib.hid (mixK_lt (key := key) (i := i) hk)
  have q0 : ((x : Int) / 4294967296) % 4294967296 = ((x / 4294967296 : Nat) : Int) := by omega
  have q1 : (x : Int) % 4294967296 = ((x % 4294967296 : Nat) : Int) := by omega
  have HQ0 := Lib.hid q0
  have HQ1 := Lib.hid q1
  clear q0 q1
  go_enter Tryz.func109, Tryz.ntmps109
  go_wp2_with fail
  go_loopg [5, 6, 14] 4 (MixRel key x w)
  case atStart => exact ⟨0, rfl, by decide, rfl, iv (by rw [mixTo]; omega), iv (by rw [mixTo]; omega), rfl⟩
  case round =>
    obtain ⟨i, rfl, hi, rfl, rfl, rfl, rfl⟩ := hrel
    have HLi := HL i
    by_cases hlt : i < 4
    · have hii : (i : Int) < 4 := by omega
      have HS : Hid (mixTo key x (i + 1) = ((mixTo key x i).2, (mixTo key x i).1 ^^^ rndN (mixTo key x i).2 (mixK key (i + 1)) (i + 1))) := rfl
      generalize (mixTo key x i).1 = l at *
      generalize (mixTo key x i).2 = r at *
      have HKi := HK (i + 1)
      by_cases hp : i % 2 = 1
      · have t1 : (i : Int).tmod 2 = 1 := by rw [Int.tmod_eq_emod_of_nonneg (by omega)]; omega
        have HE : Hid (mixK key (i + 1) = key / 4294967296) := by unfold Hid mixK; rw [if_neg (by omega)]
        as_aux_lemma =>
        go_wp2_with fail
        refine (round_any r (mixK key (i + 1)) (i + 1) _ _ _ rfl (by rw [HE.out]; omega) (by omega) HLi.out.2 HKi.out _).mono ?_
        rintro e w2 ⟨rfl, rfl⟩
        go_wp2_with fail
        go_roundg (4 - (i + 1))
        case measure => omega
        case rel => exact ⟨i + 1, by go_num, by omega, rfl, iv (by rw [HS.out]), iv (by rw [HS.out, u32_xor_nat _ _ HLi.out.1 (rndN_lt _ _ _)]), rfl⟩
      · have t1 : (i : Int).tmod 2 = 0 := by rw [Int.tmod_eq_emod_of_nonneg (by omega)]; omega
        have HE : Hid (mixK key (i + 1) = key % 4294967296) := by unfold Hid mixK; rw [if_pos (by omega)]
        as_aux_lemma =>
        go_wp2_with fail
        refine (round_any r (mixK key (i + 1)) (i + 1) _ _ _ rfl (by rw [HE.out]; omega) (by omega) HLi.out.2 HKi.out _).mono ?_
        rintro e w2 ⟨rfl, rfl⟩
        go_wp2_with fail
        go_roundg (4 - (i + 1))
        case measure => omega
        case rel => exact ⟨i + 1, by go_num, by omega, rfl, iv (by rw [HS.out]), iv (by rw [HS.out, u32_xor_nat _ _ HLi.out.1 (rndN_lt _ _ _)]), rfl⟩
    · have hii : ¬ (i : Int) < 4 := by omega
      have he : i = 4 := by omega
      subst he
      have HM : Hid (mixN key x = (mixTo key x 4).1 * 4294967296 + (mixTo key x 4).2) := rfl
      generalize (mixTo key x 4).1 = l at *
      generalize (mixTo key x 4).2 = r at *
      obtain ⟨hl, hr⟩ := HLi.out
      have HJ := Lib.hid (join32 hl hr)
      as_aux_lemma =>
      go_wp2_with fail
      go_ret
      refine ⟨ret_int ?_, rfl⟩
      rw [HM.out, ← HJ.out]
end Go.Proofs.YtghahghbahcpfaaGreatDoor
/- The walks over package digest: Sum. -/
namespace Go.Proofs.YtghahghbahcpfaaGreatDoor
open Go.RowKit

/-- bytes -/
def EByt : ElemK UInt8 := cellK (fun c => Value.int .u8 ((c.toNat : Nat) : Int)) fun _ => rfl
theorem eb_at {B : Nat → Prop} {w : World} {L : List UInt8} {v : Value} (h : EByt.Row B w L v) (hne : L ≠ []) :
    ∃ b off cap, v = .slice (some ⟨b, off, none⟩) L.length cap ∧ L.length ≤ cap ∧ ∀ (j : Nat) (hj : j < L.length), w.cell? ⟨b, off + j, none⟩ = some (.int .u8 ((L[j].toNat : Nat) : Int)) := by
  rcases h with ⟨_, _, _, e⟩ | ⟨b, off, cap, h1, _, _, h4, h5⟩
  · exact absurd e hne
  · refine ⟨b, off, cap, h1, h4, fun j hj => ?_⟩
    obtain ⟨cs, c1, c2⟩ := h5 j hj
    have c2 : cs = [Value.int .u8 ((L[j].toNat : Nat) : Int)] := c2
    subst c2
    have e : w.cell? ⟨b, off + j * 1 + 0, none⟩ = _ := c1 0 _ rfl
    rwa [Nat.add_zero, Nat.mul_one] at e
/-- one byte more of a group, as the program puts it in -/
theorem leN_next {G : List UInt8} {j : Nat} (hj : j < G.length) (h8 : G.length ≤ 8) : bits BinOp.or IntKind.u64 ((leN (G.take j) : Nat) : Int) (((G[j].toNat * 2 ^ (8 * j) : Nat)) : Int) = ((leN (G.take (j + 1)) : Nat) : Int) := by
  have h1 : leN (G.take j) < 2 ^ (8 * j) := by
    have := leN_lt (G.take j)
    rw [List.length_take, Nat.min_eq_left (by omega)] at this
    rw [Nat.pow_mul]
    exact this
  have h2 : leN (G.take (j + 1)) = leN (G.take j) + G[j].toNat * 2 ^ (8 * j) := by
    rw [List.take_succ_eq_append_getElem hj, leN_snoc, List.length_take, Nat.min_eq_left (by omega), Nat.pow_mul]
  have h3 : leN (G.take (j + 1)) < 18446744073709551616 := leN_lt8 (by rw [List.length_take]; omega)
  rw [u64_or_nat _ _ (by omega) (by omega), Nat.or_comm, nat_join (8 * j) _ _ (Nat.mul_mod_left _ _) h1, h2, Nat.add_comm]
theorem leN_nextw {G : List UInt8} {j : Nat} (hj : j < G.length) (h8 : G.length ≤ 8) : bits BinOp.or IntKind.u64 ((leN (G.take j) : Nat) : Int) (IntKind.u64.wrap (((G[j].toNat : Nat) : Int) * 2 ^ (8 * j))) = ((leN (G.take (j + 1)) : Nat) : Int) := by
  have h0 := leN_next hj h8
  have h2 : leN (G.take (j + 1)) = leN (G.take j) + G[j].toNat * 2 ^ (8 * j) := by
    rw [List.take_succ_eq_append_getElem hj, leN_snoc, List.length_take, Nat.min_eq_left (by omega), Nat.pow_mul]
  have h3 : leN (G.take (j + 1)) < 18446744073709551616 := leN_lt8 (by rw [List.length_take]; omega)
  have h4 : ((G[j].toNat : Nat) : Int) * 2 ^ (8 * j) = ((G[j].toNat * 2 ^ (8 * j) : Nat) : Int) := by simp
  rw [h4, IntKind.wrap_u64, ← h0]
  generalize G[j].toNat * 2 ^ (8 * j) = p at *
  rw [Int.emod_eq_of_lt (by omega) (by omega)]
def SumRel (L : List UInt8) (b off cap : Nat) (w : World) (f : Nat) (t0 t3 : Value) (wr : World) : Prop :=
  ∃ (k x cp : Nat) (a : Option Addr), t0 = .slice a (L.length - k) cp ∧ (k < L.length → a = some ⟨b, off + k, none⟩ ∧ cp = cap - k) ∧ k ≤ L.length ∧ f = L.length - k ∧ t3 = .int .u64 (x : Nat) ∧ x < 18446744073709551616 ∧ sumR L k x = sumN L ∧ wr = w
def NilRel (ao : Option Addr) (cap x : Nat) (w : World) (_ : Nat) (t0 t3 : Value) (wr : World) : Prop := t0 = .slice ao 0 cap ∧ t3 = .int .u64 (x : Nat) ∧ wr = w
def GrpRel (G : List UInt8) (n : Nat) (w : World) (f : Nat) (t5 t22 : Value) (wr : World) : Prop :=
  ∃ j : Nat, t22 = .int .i64 (j : Nat) ∧ j ≤ n ∧ f = n - j ∧ t5 = .int .u64 (leN (G.take j) : Nat) ∧ wr = w
set_option maxRecDepth 100000 in
set_option maxHeartbeats 1600000 in
theorem dsum_any (L : List UInt8) (v : Value) (B : Nat → Prop) (w : World) (hl : L.length ≤ 9223372036854775807) (h : EByt.Row B w L v) :
    Calls Tryz.prog 69 #[v] w fun e w' => e = .returned (.int .u64 (sumN L : Nat)) ∧ w' = w := by
  have hl64 : L.length < 18446744073709551616 := by omega
  have HM := Lib.hid (mix_any L.length 0 hl64 (by decide) w)
  by_cases hne : L = []
  · subst hne
    obtain ⟨ao, cap, rfl⟩ := h.form
    have HM : Hid (Calls Tryz.prog 109 #[.int .u64 0, .int .u64 0] w fun e w' => e = .returned (.int .u64 (mixN 0 0 : Nat)) ∧ w' = w) := HM.out
    clear h hl hl64
    go_enter Tryz.func69, Tryz.ntmps69
    go_wp2_with fail
    refine HM.out.mono ?_
    rintro e w2 ⟨rfl, rfl⟩
    go_wp2_with fail
    go_loopg [0, 3] 0 (NilRel ao cap (mixN 0 0) w2)
    case atStart => exact ⟨rfl, rfl, rfl⟩
    case round =>
      obtain ⟨rfl, rfl, rfl⟩ := hrel
      as_aux_lemma =>
      go_wp2_with fail
      go_ret
      exact ⟨rfl, rfl⟩
  · obtain ⟨b, off, cap, rfl, hcap, hc⟩ := eb_at h hne
    have HC := Lib.hid hc
    clear h hc
    have qw : IntKind.u64.wrap (L.length : Int) = (L.length : Int) := by rw [IntKind.wrap_u64]; omega
    have HL0 := Lib.hid (sumR_zero L)
    have HX0 : Hid (mixN L.length 0 < 18446744073709551616) := mixN_lt (by decide)
    go_enter Tryz.func69, Tryz.ntmps69
    go_wp2_with fail
    refine HM.out.mono ?_
    rintro e w2 ⟨rfl, rfl⟩
    clear HM qw
    generalize mixN L.length 0 = x0 at *
    go_wp2_with fail
    go_loopg [0, 3] L.length (SumRel L b off cap w2)
    case atStart => exact ⟨0, x0, cap, _, rfl, fun _ => ⟨rfl, rfl⟩, Nat.zero_le _, rfl, rfl, HX0.out, HL0.out, rfl⟩
    case round =>
      obtain ⟨k, x, cp, a, rfl, hac, hk, rfl, rfl, hx, hsr, rfl⟩ := hrel
      have HSR := Lib.hid hsr
      clear hsr HL0 HX0
      by_cases hlt : k < L.length
      · obtain ⟨rfl, rfl⟩ := hac hlt
        obtain ⟨m, hm⟩ : ∃ m, L.length - k = m := ⟨_, rfl⟩
        obtain ⟨c, hcc⟩ : ∃ c, cap - k = c := ⟨_, rfl⟩
        obtain ⟨n, hn⟩ : ∃ n, min 8 m = n := ⟨_, rfl⟩
        have hmin : min (8 : Int) (m : Int) = (n : Int) := by omega
        have hn8 : n ≤ 8 := by omega
        have hnm : n ≤ m := by omega
        have hn0 : 0 < n := by omega
        have hnc : n ≤ c := by omega
        have HG : Hid (((L.drop k).take 8).length = n) := by unfold Hid; rw [List.length_take, List.length_drop]; omega
        have HSS : Hid (sumR L (k + n) (mixN (leN ((L.drop k).take 8)) x ^^^ leN ((L.drop k).take 8)) = sumN L) := by
          unfold Hid
          rw [← HSR.out, sumR_step hlt]
          by_cases h : n = 8
          · rw [h]
          · rw [sumR_end (by omega), sumR_end (by omega)]
        have HCG : Hid (∀ j (hj : j < ((L.drop k).take 8).length), wr.cell? ⟨b, off + k + j, none⟩ = some (.int .u8 ((((L.drop k).take 8)[j].toNat : Nat) : Int))) := fun j hj => by
          have h1 : k + j < L.length := by rw [List.length_take, List.length_drop] at hj; omega
          have := HC.out (k + j) h1
          rw [← Nat.add_assoc] at this
          rw [this, List.getElem_take, List.getElem_drop]
        have hLk : L.length = m + k := by omega
        have hmc : m ≤ c := by omega
        generalize (L.drop k).take 8 = G at *
        rw [hm, hcc]
        have HLK := Lib.hid hLk
        have HCC := Lib.hid hcc
        have HMM := Lib.hid hm
        clear hLk hcc hm
        have tm : (0 : Int) < (m : Int) := by omega
        as_aux_lemma =>
        go_upto_region 3 with fail
        go_cut [4] (fun s4 wx => s4 = .int .i64 (n : Nat) ∧ wr = wx)
        case first =>
          by_cases h8 : m < 8
          · have h8i : (m : Int) < 8 := by omega
            obtain rfl : m = n := by omega
            clear hmin
            as_aux_lemma =>
            go_wp2_with fail
            go_meet
            case rel => exact ⟨by first | rfl | exact congrArg _ (by omega), rfl⟩
          · have h8i : ¬ (m : Int) < 8 := by omega
            obtain rfl : n = 8 := by omega
            clear hmin
            as_aux_lemma =>
            go_wp2_with fail
            go_meet
            case rel => exact ⟨by first | rfl | exact congrArg _ (by omega), rfl⟩
        case rest =>
          obtain ⟨rfl, rfl⟩ := hcut
          clear hmin hn
          have hnmi : (n : Int) ≤ (m : Int) := by omega
          have hnci : (n : Int) ≤ (c : Int) := by omega
          as_aux_lemma =>
          go_wp2_with fail
          go_loopg [5, 22] n (GrpRel G n wr)
          case atStart => exact ⟨0, rfl, Nat.zero_le _, rfl, rfl, rfl⟩
          case round =>
            obtain ⟨j, rfl, hj, rfl, rfl, rfl⟩ := hrel
            by_cases hjn : j < n
            · have hjj : (j : Int) < (n : Int) := by omega
              have hjG : j < G.length := by rw [HG.out]; exact hjn
              have y0 := HCG.out j hjG
              have HN := Lib.hid (leN_nextw hjG (by rw [HG.out]; exact hn8))
              have hc256 := G[j].toNat_lt
              generalize leN (G.take j) = g at *
              generalize G[j].toNat = u at *
              have q8 : IntKind.i64.wrap (8 * (j : Int)) = 8 * (j : Int) := IntWalk.i64_in _ (by omega)
              have q80 : (0 : Int) ≤ 8 * (j : Int) := by omega
              as_aux_lemma =>
              go_wp2_with fail
              go_roundg (n - (j + 1))
              case measure => omega
              case rel => exact ⟨j + 1, by go_num, by omega, rfl, iv HN.out, rfl⟩
            · have hjj : ¬ (j : Int) < (n : Int) := by omega
              have he : j = n := by omega
              have hG2 : G.take n = G := List.take_of_length_le (by rw [HG.out]; exact Nat.le_refl _)
              rw [he, hG2]
              have hg64 : leN G < 18446744073709551616 := leN_lt8 (by rw [HG.out]; exact hn8)
              have HMX := Lib.hid (mix_any (leN G) x hg64 hx)
              have HX1 : Hid (mixN (leN G) x < 18446744073709551616) := mixN_lt hx
              have HS2 : Hid (sumR L (k + n) (mixN (leN G) x ^^^ leN G) = sumN L) := HSS.out
              clear HSS
              generalize leN G = g at *
              generalize mixN g x = y at *
              clear hG2 he hjj
              as_aux_lemma =>
              go_wp2_with fail
              refine (HMX.out wr).mono ?_
              rintro e w3 ⟨rfl, rfl⟩
              have hw64 : y ^^^ g < 18446744073709551616 := xor_lt64 HX1.out hg64
              have HXR := Lib.hid (u64_xor_nat y g HX1.out hg64)
              by_cases hcn : c = n
              · subst hcn
                obtain rfl : m = c := by omega
                as_aux_lemma =>
                go_wp2_with fail
                go_roundg (L.length - (k + m))
                case measure => have := HMM.out; omega
                case rel =>
                  have h1 := HMM.out
                  exact ⟨k + m, y ^^^ g, 0, some ⟨b, off + k, none⟩, by rw [show L.length - (k + m) = 0 by omega], fun h => absurd h (by omega), by omega, rfl, iv HXR.out, hw64, HS2.out, rfl⟩
              · as_aux_lemma =>
                go_wp2_with fail
                go_roundg (L.length - (k + n))
                case measure => have := HMM.out; omega
                case rel =>
                  have h1 := HMM.out
                  have h2 := HCC.out
                  exact ⟨k + n, y ^^^ g, c - n, some ⟨b, off + k + n, none⟩, by rw [show L.length - (k + n) = m - n by omega], fun h => ⟨by rw [Nat.add_assoc], by omega⟩, by omega, rfl, iv HXR.out, hw64, HS2.out, rfl⟩
      · have he : k = L.length := by omega
        have hz : L.length - k = 0 := by omega
        have HE : Hid (x = sumN L) := by unfold Hid; rw [← HSR.out]; exact (sumR_end (by omega)).symm
        rw [hz]
        clear hz he hlt hk HSR HC hcap hl
        as_aux_lemma =>
        go_wp2_with fail
        go_ret
        exact ⟨ret_int (by rw [HE.out]), rfl⟩
end Go.Proofs.YtghahghbahcpfaaGreatDoor
/- The walks over the reference's digests: Round, Mix, group, Sum. -/
namespace Go.Proofs.YtghahghbahcpfaaGreatDoor
open Go.RowKit

end Go.Proofs.YtghahghbahcpfaaGreatDoor
