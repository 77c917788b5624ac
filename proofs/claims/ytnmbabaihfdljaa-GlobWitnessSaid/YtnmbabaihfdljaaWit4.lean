/- The walks over the reference's Witness and Overlaps. -/
import Derived.Test.YtnmbabaihfdljaaWit3
namespace Go.Proofs.Ytnmbabaihfdljaa
open Go.RowKit
open Bs

def Elems2Post (l : List UInt8) (w : World) (e : Ending) (w' : World) : Prop :=
  Below w.heap.size w w' ∧ ∃ (v : Value) (ok : Bool) (ps : List (RE × Value)), e = .returned (.tuple #[v, .bool ok]) ∧ rels l = (if ok then some (ps.map (·.1)) else none) ∧
    (ok = true → ElemsAt w' w.heap.size v ps ∧ ps.length ≤ l.length ∧ ∀ p ∈ ps, p.1.items.length ≤ 4096)

theorem elems2 (s : ByteArray) (hs : s.size ≤ 4096) (w : World) : Calls Try.prog 23 #[.string s] w (Elems2Post s.data.toList w) := by
  refine (elems_any s (by unfold maxLen; omega) w).mono ?_
  rintro e w1 ⟨hb, hq⟩
  have hsz := Lib.size_eq s
  rw [if_neg (by omega)] at hq
  refine ⟨hb, ?_⟩
  cases he : rels s.data.toList with
  | none =>
    rw [he] at hq
    exact ⟨_, false, [], hq, rfl, by simp⟩
  | some L =>
    rw [he] at hq
    obtain ⟨v, ps, rfl, hat, hL, hlen⟩ := hq
    refine ⟨v, true, ps, rfl, by rw [← hL]; rfl, fun _ => ⟨hat, ?_, ?_⟩⟩
    · rw [← hL, List.length_map] at hlen; exact hlen
    · intro q hq
      have := relemsF_items he q.1 (by rw [← hL]; exact List.mem_map_of_mem hq)
      omega

theorem ElemsAt_base {w : World} {base base' : Nat} {v : Value} {ps : List (RE × Value)} (h : ElemsAt w base v ps) (hb : base' ≤ base) : ElemsAt w base' v ps :=
  ⟨ownsRow_base h.1 hb, fun p hp => ⟨ownsRow_base (h.2 p hp).1 hb, (h.2 p hp).2⟩⟩

/-- what the reference's Witness answers -/
def WitAns (a b : List UInt8) (q : ByteArray) (ok : Bool) : Prop :=
  match rels a, rels b with
  | some L, some M => (ok = true → q.size ≤ 2000 ∧ matchF (L.map RE.abs) q.data.toList = true ∧ matchF (M.map RE.abs) q.data.toList = true) ∧ (ok = false → ¬ Reach (L.map RE.abs) (M.map RE.abs) (L.length, M.length))
  | _, _ => ok = false

def WitPost (a b : List UInt8) (w : World) (e : Ending) (w' : World) : Prop :=
  ∃ (q : ByteArray) (ok : Bool), e = .returned (.tuple #[.string q, .bool ok]) ∧ WitAns a b q ok ∧ Below w.heap.size w w'

def WitRel (w3 : World) (A B : List AE) (ps : List Plc) (f : Nat) (t11 : Value) (wr : World) : Prop :=
  ∃ i : Nat, t11 = .int .i64 (i : Nat) ∧ i ≤ ps.length ∧ f = ps.length - i ∧ (∀ j, j < i → ∀ q, ps[j]? = some q → ¬ (q.a = A.length ∧ q.b = B.length)) ∧ Below w3.heap.size w3 wr

def BackRel (w3 : World) (A B : List AE) (ps : List Plc) (i : Nat) (f : Nat) (t12 t13 : Value) (wr : World) : Prop :=
  ∃ (k : Nat) (s : ByteArray) (P : Plc), t12 = .string s ∧ t13 = .int .i64 (k : Nat) ∧ f = k ∧ ps[k]? = some P ∧ s.size + k ≤ i ∧ Leads A P.a s.data.toList ∧ Leads B P.b s.data.toList ∧ Below w3.heap.size w3 wr

theorem back_step {A B : List AE} {x q : Plc} {s : List UInt8} (h : Follows A B x q) (hq : q.byte < 256) (h1 : Leads A q.a s) (h2 : Leads B q.b s) :
    (q.moved = false → Leads A x.a s ∧ Leads B x.b s) ∧ (q.moved = true → Leads A x.a (UInt8.ofNat q.byte :: s) ∧ Leads B x.b (UInt8.ofNat q.byte :: s)) := by
  have hu : (UInt8.ofNat q.byte).toNat = q.byte := by simp; omega
  rcases h with ⟨m, g1, g2, g3, g4⟩ | ⟨m, g1, g2, g3, g4⟩ | ⟨m, g1, g2, g3, g4, g5, g6⟩
  · refine ⟨fun _ => ⟨?_, ?_⟩, fun e => ?_⟩
    · rw [g3] at h1; exact h1.skip_ g1 g2
    · rw [← g4]; exact h2
    · rw [m] at e; cases e
  · refine ⟨fun _ => ⟨?_, ?_⟩, fun e => ?_⟩
    · rw [← g3]; exact h1
    · rw [g4] at h2; exact h2.skip_ g1 g2
    · rw [m] at e; cases e
  · refine ⟨fun e => ?_, fun _ => ⟨?_, ?_⟩⟩
    · rw [m] at e; cases e
    · exact h1.byte g1 (by rw [hu]; exact g3) g5
    · exact h2.byte g2 (by rw [hu]; exact g4) g6

set_option maxRecDepth 100000 in
set_option maxHeartbeats 4000000 in
theorem witness_any (a b : ByteArray) (ha : a.size ≤ 40) (hb : b.size ≤ 40) (w : World) :
    Calls Try.prog 21 #[.string a, .string b] w (WitPost a.data.toList b.data.toList w) := by
  go_enter Try.func21, Try.ntmps21
  go_wp2_with fail
  refine (elems2 a (by omega) w).mono ?_
  rintro e w1 ⟨hb1, xv, okx, xs, rfl, hxr, hxat⟩
  have HB1 := Lib.hid hb1
  have HXR := Lib.hid hxr
  have HX := Lib.hid hxat
  clear hb1 hxr hxat
  go_wp2_with fail
  refine (elems2 b (by omega) w1).mono ?_
  rintro e w2 ⟨hb2, yv, oky, ys, rfl, hyr, hyat⟩
  have HB2 := Lib.hid (HB1.out.trans (hb2.mono HB1.out.size))
  have HB12 := Lib.hid hb2
  have HYR := Lib.hid hyr
  have HY := Lib.hid hyat
  clear hb2 hyr hyat
  cases okx with
  | false =>
    have HANS : Hid (WitAns a.data.toList b.data.toList ⟨#[]⟩ false) := by unfold WitAns; rw [HXR.out]; rfl
    go_wp2
    go_ret2
    exact ⟨⟨#[]⟩, false, rfl, HANS.out, HB2.out⟩
  | true =>
  cases oky with
  | false =>
    have HANS : Hid (WitAns a.data.toList b.data.toList ⟨#[]⟩ false) := by unfold WitAns; rw [HXR.out, HYR.out]; rfl
    go_wp2
    go_ret2
    exact ⟨⟨#[]⟩, false, rfl, HANS.out, HB2.out⟩
  | true =>
    obtain ⟨hxat, hxl, hxi⟩ := HX.out rfl
    obtain ⟨hyat, hyl, hyi⟩ := HY.out rfl
    obtain ⟨ax, cx, rfl⟩ := ownsRow_form hxat.1
    obtain ⟨ay, cy, rfl⟩ := ownsRow_form hyat.1
    have HXA := Lib.hid (ElemsAt_below hxat (w1 := w2) HB12.out)
    have HYA := Lib.hid (ElemsAt_base hyat HB1.out.size)
    rw [← Lib.size_eq] at hxl hyl
    have HXI := Lib.hid hxi
    have HYI := Lib.hid hyi
    have hAl : (absP xs).length = xs.length := by simp [absP]
    have hBl : (absP ys).length = ys.length := by simp [absP]
    have HAL := Lib.hid hAl
    have HBL := Lib.hid hBl
    clear hAl hBl hxat hyat hxi hyi HX HY
    have HANS1 : Hid (∀ q : ByteArray, q.size ≤ 2000 → matchF (absP xs) q.data.toList = true → matchF (absP ys) q.data.toList = true → WitAns a.data.toList b.data.toList q true) := by
      intro q h1 h2 h3
      unfold WitAns
      rw [HXR.out, HYR.out]
      refine ⟨fun _ => ⟨h1, ?_, ?_⟩, by simp⟩
      · simpa [absP, Function.comp_def] using h2
      · simpa [absP, Function.comp_def] using h3
    have HANS0 : Hid (¬ Reach (absP xs) (absP ys) ((absP xs).length, (absP ys).length) → WitAns a.data.toList b.data.toList ⟨#[]⟩ false) := by
      intro h
      unfold WitAns
      rw [HXR.out, HYR.out]
      refine ⟨by simp, fun _ => ?_⟩
      simpa [absP, Function.comp_def] using h
    clear HXR HYR
    go_wp2_with fail
    refine (places_any xs ys _ _ w.heap.size w2 HXA.out HYA.out (by omega) (by omega) HXI.out HYI.out).mono ?_
    rintro e w3 ⟨v, ps, rfl, hinv, hrow, hb3⟩
    obtain ⟨ao, cap, rfl⟩ := ownsRow_form hrow
    have HINV := Lib.hid hinv
    have HROW := Lib.hid hrow
    have HB3 := Lib.hid (HB2.out.trans (hb3.mono HB2.out.size))
    have hps : ps.length ≤ 1681 := by
      have := hinv.len
      have h41 := Nat.mul_le_mul (show (absP xs).length + 1 ≤ 41 by have := HAL.out; omega) (show (absP ys).length + 1 ≤ 41 by have := HBL.out; omega)
      omega
    clear hinv hrow hb3 HXA HYA HXI HYI
    go_wp2_with fail
    go_loopg [11] ps.length (WitRel w3 (absP xs) (absP ys) ps)
    case atStart => exact ⟨0, rfl, Nat.zero_le _, rfl, (fun j h => by omega), Below.refl _ _⟩
    case round =>
      obtain ⟨i, rfl, hi, rfl, hno, hbel⟩ := hrel
      have HNO := Lib.hid hno
      have HBel := Lib.hid hbel
      clear hno hbel
      by_cases hlt : i < ps.length
      · obtain ⟨g, c, hv, hbg, hgw, _, hcs⟩ := ownsRow_at (f := Plc.cells) (ownsRow_below HROW.out HBel.out) Plc.cells_len (by decide) hlt
        injection hv with e1 e2 e3
        subst e1
        have g0 := hcs 0 _ rfl
        have g1 := hcs 1 _ rfl
        simp only [Nat.add_zero] at g0
        have HP := Lib.hid (List.getElem?_eq_getElem hlt)
        clear hcs e2 e3
        have hii : (i : Int) < (ps.length : Int) := by omega
        by_cases hend : ps[i].a = xs.length ∧ ps[i].b = ys.length
        · have ta : (((ps[i].a : Nat) : Int) != (xs.length : Int)) = false := by simp [hend.1]
          have tb : (((ps[i].b : Nat) : Int) != (ys.length : Int)) = false := by simp [hend.2]
          have hstart : Leads (absP xs) ps[i].a (⟨#[]⟩ : ByteArray).data.toList ∧ Leads (absP ys) ps[i].b (⟨#[]⟩ : ByteArray).data.toList := by
            rw [hend.1, hend.2, ← HAL.out, ← HBL.out]
            exact ⟨Leads.end_ _, Leads.end_ _⟩
          have HSTART := Lib.hid hstart
          clear hend hstart HNO HANS0
          go_wp2_with fail
          go_loopg [12, 13] i (BackRel w3 (absP xs) (absP ys) ps i)
          case atStart => exact ⟨i, ⟨#[]⟩, ps[i], rfl, rfl, rfl, HP.out, (by show 0 + i ≤ i; omega), HSTART.out.1, HSTART.out.2, HBel.out⟩
          case round =>
            obtain ⟨k, s, q, rfl, rfl, rfl, hq, hs, hl1, hl2, hbel⟩ := hrel
            have HBK := Lib.hid hbel
            have HL1 := Lib.hid hl1
            have HL2 := Lib.hid hl2
            obtain ⟨hkl, hqe⟩ := List.getElem?_eq_some_iff.1 hq
            clear hbel hl1 hl2 hq
            by_cases hk0 : gk = 0
            · subst hk0
              have hq0 : q = ⟨0, 0, 0, false, 0⟩ := by
                obtain ⟨r, hr⟩ := HINV.out.first
                subst hqe
                simp [hr]
              have HFIN : Hid (WitAns a.data.toList b.data.toList s true) := by
                apply HANS1.out s (by omega)
                · have := HL1.out; rw [hq0] at this; exact this.all
                · have := HL2.out; rw [hq0] at this; exact this.all
              clear hq0 hqe
              as_aux_lemma =>
              go_wp2
              go_ret2
              exact ⟨s, true, rfl, HFIN.out, HB3.out.trans (HBK.out.mono HB3.out.size)⟩
            · have hkpos : (0 : Int) < (gk : Int) := by omega
              obtain ⟨x, hx1, hx2, hx3⟩ := HINV.out.how gk (by omega) q (by rw [List.getElem?_eq_getElem hkl, hqe])
              obtain ⟨hq1, hq2, hqb⟩ := HINV.out.bd q (by rw [← hqe]; exact List.getElem_mem hkl)
              obtain ⟨hb0, hb1⟩ := back_step hx3 hqb HL1.out HL2.out
              have HB0 := Lib.hid hb0
              have HB1' := Lib.hid hb1
              have HX2 := Lib.hid hx2
              obtain ⟨g', c'', hv, hbg', hgw', _, hcs⟩ := ownsRow_at (f := Plc.cells) (ownsRow_below HROW.out HBK.out) Plc.cells_len (by decide) hkl
              injection hv with e1 e2 e3
              injection e1 with e1
              injection e1 with e1
              subst e1
              have k2 := hcs 2 _ rfl
              have k3 := hcs 3 _ rfl
              have k4 := hcs 4 _ rfl
              rw [hqe] at k2 k3 k4
              have hki : (gk : Int) < (ps.length : Int) := by omega
              clear hcs e2 e3 hb0 hb1 hx2 hx3 hqe hq1 hq2 hk0
              cases hm : q.moved with
              | false =>
                rw [hm] at k3
                have hn := HB0.out hm
                have HN := Lib.hid hn
                clear hm hn
                as_aux_lemma =>
                go_wp2_with fail
                go_roundg q.from_
                case measure => omega
                case rel => exact ⟨q.from_, s, x, rfl, rfl, rfl, HX2.out, by omega, HN.out.1, HN.out.2, HBK.out⟩
              | true =>
                rw [hm] at k3
                have hn := HB1'.out hm
                have hu : q.byte = (UInt8.ofNat q.byte).toNat := by simp; omega
                rw [hu] at k4
                generalize UInt8.ofNat q.byte = u at hn k4
                have HN := Lib.hid hn
                clear hm hn hu HB1' HB0
                as_aux_lemma =>
                go_wp2_with (refine wpList_str_of_bytes rfl 49 9 5 _ rfl Try.underlying49 Try.underlying5 Try.underlying9 _ rfl wr.heap.size 1 [u] ⟨rfl, .inr ⟨wr.heap.size, 1, _, rfl, Nat.le_refl _, hp_new rfl, Nat.le_refl _, by decide, rfl, rfl⟩⟩ ?_)
                go_roundg q.from_
                case measure => omega
                case rel =>
                  have e : ((⟨[u].toArray⟩ : ByteArray) ++ s).data.toList = u :: s.data.toList := by simp
                  have e2 : ((⟨[u].toArray⟩ : ByteArray) ++ s).size = 1 + s.size := by rw [ByteArray.size_append]; rfl
                  exact ⟨q.from_, (⟨[u].toArray⟩ : ByteArray) ++ s, x, rfl, rfl, rfl, HX2.out, by omega, by rw [e]; exact HN.out.1, by rw [e]; exact HN.out.2, (HBK.out.alloc HBK.out.size _)⟩
        · have HNS := Lib.hid hend
          by_cases ha : ps[i].a = xs.length
          · have ta : (((ps[i].a : Nat) : Int) != (xs.length : Int)) = false := by simp [ha]
            have tb : (((ps[i].b : Nat) : Int) != (ys.length : Int)) = true := by rw [bne_iff_ne]; intro e; exact HNS.out ⟨ha, by omega⟩
            clear hend
            as_aux_lemma =>
            go_wp2_with fail
            go_roundg (ps.length - (i + 1))
            case measure => omega
            case rel =>
              refine ⟨i + 1, by go_num, by omega, rfl, ?_, HBel.out⟩
              intro j hj q hq
              by_cases e : j = i
              · subst e
                rw [HP.out] at hq
                injection hq with hq
                subst hq
                rw [HAL.out, HBL.out]
                exact HNS.out
              · exact HNO.out j (by omega) q hq
          · have ta : (((ps[i].a : Nat) : Int) != (xs.length : Int)) = true := by rw [bne_iff_ne]; intro e; exact ha (by omega)
            clear hend
            as_aux_lemma =>
            go_wp2_with fail
            go_roundg (ps.length - (i + 1))
            case measure => omega
            case rel =>
              refine ⟨i + 1, by go_num, by omega, rfl, ?_, HBel.out⟩
              intro j hj q hq
              by_cases e : j = i
              · subst e
                rw [HP.out] at hq
                injection hq with hq
                subst hq
                rw [HAL.out, HBL.out]
                exact HNS.out
              · exact HNO.out j (by omega) q hq
      · have HN := Lib.hid (HANS0.out (by
          intro hr
          obtain ⟨q, hq, he⟩ := HINV.out.all (Nat.le_refl _) hr
          obtain ⟨j, hj, rfl⟩ := List.getElem_of_mem hq
          injection he with he1 he2
          exact HNO.out j (by omega) _ (List.getElem?_eq_getElem hj) ⟨he1, he2⟩))
        go_wp2
        go_ret2
        exact ⟨⟨#[]⟩, false, rfl, HN.out, HB3.out.trans (HBel.out.mono HB3.out.size)⟩

set_option maxRecDepth 100000 in
set_option maxHeartbeats 400000 in
theorem roverlaps_any (a b : ByteArray) (ha : a.size ≤ 40) (hb : b.size ≤ 40) (w : World) :
    Calls Try.prog 20 #[.string a, .string b] w fun e w' => ∃ (q : ByteArray) (ok : Bool), e = .returned (.bool ok) ∧ WitAns a.data.toList b.data.toList q ok ∧ Below w.heap.size w w' := by
  go_enter Try.func20, Try.ntmps20
  go_wp2_with fail
  refine (witness_any a b ha hb w).mono ?_
  rintro e w1 ⟨q, ok, rfl, hans, hb⟩
  have HA := Lib.hid hans
  have HB := Lib.hid hb
  clear hans hb
  go_wp2_with fail
  go_ret
  exact ⟨q, ok, rfl, HA.out, HB.out⟩
end Go.Proofs.Ytnmbabaihfdljaa
