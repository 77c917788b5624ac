/- The walk over the reference's Literal. -/
import Derived.Test.YtnmbabaihfdljaaLit
namespace Go.Proofs.Ytnmbabaihfdljaa
open Go.RowKit
open Bs

/-- an element of one byte has its byte -/
def RE.ok (e : RE) : Prop := (∀ p ∈ e.items, p.1 < 256 ∧ p.2 < 256) ∧ (e.kind = 5 → ∃ c : Nat, c < 256 ∧ e.items = [(c, c)])

theorem rclsF_ok {f : Nat} : ∀ {l : List UInt8} {its its' : List (Nat × Nat)} {r : List UInt8}, rclsF f l its = some (its', r) → (∀ p ∈ its, p.1 < 256 ∧ p.2 < 256) → ∀ p ∈ its', p.1 < 256 ∧ p.2 < 256 := by
  induction f with
  | zero => intro l its its' r h; cases h
  | succ f ih =>
    intro l its its' r h hits
    by_cases hh : l.head? = some 93
    · rw [rclsF, if_pos hh] at h
      simp only [Option.some.injEq, Prod.mk.injEq] at h
      rw [← h.1]; exact hits
    · rw [rclsF_go f l its hh] at h
      by_cases h1 : (charF l).2 = 0
      · rw [if_pos h1] at h; cases h
      · rw [if_neg h1] at h
        have hb := (charF_bd l).1
        by_cases h2 : (l.drop (charF l).2).head? = some 45
        · rw [if_pos h2] at h
          split at h
          · cases h
          · have hb2 := (charF_bd (l.drop ((charF l).2 + 1))).1
            refine ih h ?_
            intro p hp
            rcases List.mem_append.1 hp with hp | hp
            · exact hits p hp
            · simp at hp; subst hp; exact ⟨hb, hb2⟩
        · rw [if_neg h2] at h
          refine ih h ?_
          intro p hp
          rcases List.mem_append.1 hp with hp | hp
          · exact hits p hp
          · simp at hp; subst hp; exact ⟨hb, hb⟩

theorem relemF_ok {F : Nat} {l : List UInt8} {E : RE} {n : Nat} (h : relemF F l = some (E, n)) : E.ok := by
  cases l with
  | nil => cases h
  | cons c r =>
    have hc := c.toNat_lt
    simp only [relemF] at h
    split at h
    · split at h <;> (simp at h; rw [← h.1]; exact ⟨by simp, by simp⟩)
    · split at h
      · simp at h; rw [← h.1]; exact ⟨by simp, by simp⟩
      · split at h
        · cases hr : rclsF F r [] with
          | none => rw [hr] at h; cases h
          | some x =>
            obtain ⟨its, rest⟩ := x
            rw [hr] at h
            simp only at h
            split at h
            · cases h
            · simp only [Option.some.injEq, Prod.mk.injEq] at h
              rw [← h.1]
              exact ⟨rclsF_ok hr (by simp), by simp⟩
        · split at h
          · cases r with
            | nil => cases h
            | cons d r => have hd := d.toNat_lt; simp at h; rw [← h.1]; exact ⟨by simp; omega, fun _ => ⟨d.toNat, by omega, rfl⟩⟩
          · simp at h; rw [← h.1]; exact ⟨by simp; omega, fun _ => ⟨c.toNat, by omega, rfl⟩⟩

theorem relemsF_ok {F f : Nat} : ∀ {l : List UInt8} {L : List RE}, relemsF F f l = some L → ∀ e ∈ L, e.ok := by
  induction f with
  | zero => intro l L h; cases h
  | succ f ih =>
    intro l L h e he
    rw [relemsF] at h
    split at h
    · simp at h; subst h; cases he
    · cases hr : relemF F l with
      | none => rw [hr] at h; cases h
      | some x =>
        obtain ⟨E, n⟩ := x
        rw [hr] at h
        simp only at h
        cases hq : relemsF F f (l.drop n) with
        | none => rw [hq] at h; cases h
        | some L' =>
          rw [hq] at h
          simp at h
          subst h
          cases List.mem_cons.1 he with
          | inl h => subst h; exact relemF_ok hr
          | inr h => exact ih hq e h

def RLitRel (w1 : World) (L : List RE) (f : Nat) (t6 t7 : Value) (wr : World) : Prop :=
  ∃ (i : Nat) (q : ByteArray), t7 = .int .i64 (i : Nat) ∧ t6 = .string q ∧ i ≤ L.length ∧ q.size = i ∧ f = L.length - i ∧ rlitGo L = (q.data.toList ++ (rlitGo (L.drop i)).1, (rlitGo (L.drop i)).2) ∧ Below w1.heap.size w1 wr ∧ w1.heap.size ≤ wr.heap.size

set_option maxRecDepth 100000 in
set_option maxHeartbeats 1600000 in
theorem rliteral_walk (p : ByteArray) (hp : p.size ≤ maxLen) (w : World) :
    Calls Try.prog 18 #[.string p] w (LitPost (rliteralF p.data.toList) w) := by
  go_enter Try.func18, Try.ntmps18
  go_wp2_with fail
  refine (elems_any p hp w).mono ?_
  rintro e w1 ⟨hb, hq⟩
  have HB := Lib.hid hb
  obtain ⟨v, ok, ps, he, hF, hat, hlen, hok⟩ : ∃ (v : Value) (ok : Bool) (ps : List (RE × Value)), e = .returned (.tuple #[v, .bool ok]) ∧ rliteralF p.data.toList = ((rlitGo (ps.map (·.1))).1, if ok then (rlitGo (ps.map (·.1))).2 else false) ∧ ElemsAt w1 w.heap.size v ps ∧ ps.length ≤ 4096 ∧ ((∀ q ∈ ps, q.1.ok) ∧ (ok = false → ps = [])) := by
    unfold rliteralF
    by_cases h : 4096 < p.data.toList.length
    · rw [if_pos h] at hq
      exact ⟨_, _, [], hq, by rw [if_pos h]; rfl, ⟨World.ownsRow_nil _ _ _ _, by simp⟩, by simp, by simp⟩
    · rw [if_neg h] at hq
      cases he : rels p.data.toList with
      | none =>
        rw [he] at hq
        exact ⟨_, _, [], hq, by rw [if_neg h]; rfl, ⟨World.ownsRow_nil _ _ _ _, by simp⟩, by simp, by simp⟩
      | some L =>
        rw [he] at hq
        obtain ⟨v, ps, h1, h2, h3, h4⟩ := hq
        subst h3
        exact ⟨v, true, ps, h1, by rw [if_neg h]; rfl, h2, by simp at h4 h; omega, fun q hq => relemsF_ok he q.1 (List.mem_map_of_mem hq), by simp⟩
  subst he
  have HF := Lib.hid hF
  have HOK := Lib.hid hok
  obtain ⟨ao, cap, rfl⟩ := ownsRow_form hat.1
  have HAT := Lib.hid hat
  have hw1 := hb.size
  clear hb hq hF hok hat
  go_wp2_with fail
  go_loopg [6, 7] ps.length (RLitRel w1 (ps.map (·.1)))
  case atStart => exact ⟨0, ⟨#[]⟩, rfl, rfl, Nat.zero_le _, rfl, by simp, by simp, Below.refl _ _, Nat.le_refl _⟩
  case round =>
    obtain ⟨i, q, rfl, rfl, hi, hqs, hf, hR, hbel, hsz⟩ := hrel
    simp only [List.length_map] at hi hf
    have HR := Lib.hid hR
    have HBel := Lib.hid hbel
    have HFu := Lib.hid hf
    have hq4 : q.size ≤ 4096 := by omega
    have HQS := Lib.hid hqs
    clear hR hbel hf hqs
    by_cases hend : i = ps.length
    · subst hend
      have HR1 : Hid (rlitGo (ps.map (·.1)) = (q.data.toList, true)) := by rw [HR.out, List.drop_of_length_le (by simp)]; simp [rlitGo, Hid]
      go_wp2
      go_ret2
      refine ⟨q, ?_, ?_, HB.out.trans (HBel.out.mono hw1)⟩
      · rw [HF.out, HR1.out]; cases ok <;> rfl
      · rw [HF.out, HR1.out]
    · have hlt : i < ps.length := by omega
      clear hend
      have hatr := ElemsAt_below HAT.out HBel.out
      obtain ⟨g, c0, hv, hbg, hgw, k0, k1, hrow⟩ := elem_at hatr hlt
      have hokE := HOK.out.1 _ (List.getElem_mem hlt)
      have HD : Hid ((ps.map (·.1)).drop i = ps[i].1 :: (ps.map (·.1)).drop (i + 1)) := by
        rw [List.drop_eq_getElem_cons (by simpa using hlt)]; simp [Hid]
      injection hv with e1 e2 e3
      subst e1
      subst e3
      have HOKT : Hid (ok = true) := by
        cases ok with
        | true => rfl
        | false => have := HOK.out.2 rfl; rw [this] at hlt; cases hlt
      clear hatr
      by_cases h5 : ps[i].1.kind = 5
      · obtain ⟨c, hc, hits⟩ := hokE.2 h5
        have hlenI : 0 < ps[i].1.items.length := by rw [hits]; simp
        obtain ⟨g2, c2, hv2, _, hg2, m0, m1⟩ := items_at hrow hlenI
        obtain ⟨u, hu⟩ : ∃ u : UInt8, c = u.toNat := ⟨UInt8.ofNat c, by simp; omega⟩
        have hi0 : ps[i].1.items[0].1 = u.toNat := by rw [← hu]; simp [hits]
        have hln : ps[i].1.items.length = 1 := by rw [hits]; rfl
        rw [hi0] at m0
        rw [hv2, hln] at k1
        have t5 : (((ps[i].1.kind : Nat) : Int) != 5) = false := by simp [h5]
        have HR1 : Hid (rlitGo (ps.map (·.1)) = ((q.data.toList ++ [u]) ++ (rlitGo ((ps.map (·.1)).drop (i + 1))).1, (rlitGo ((ps.map (·.1)).drop (i + 1))).2)) := by
          rw [HR.out, HD.out]; simp [rlitGo, h5, hits, hu, Hid]
        clear h5 hits hlenI hv2 hi0 hln hokE hrow m1 hu
        simp only [Nat.zero_mul] at m0
        go_wp2_with (refine wpList_str_of_bytes rfl 49 9 5 _ rfl Try.underlying49 Try.underlying5 Try.underlying9 _ rfl wr.heap.size 1 [u] ⟨rfl, .inr ⟨wr.heap.size, 1, _, rfl, Nat.le_refl _, hp_new rfl, Nat.le_refl _, by decide, rfl, rfl⟩⟩ ?_)
        go_roundg (ps.length - (i + 1))
        case measure => have := HFu.out; omega
        case rel =>
          refine ⟨i + 1, _, by go_num, rfl, by simp; omega, ?_, by simp, ?_, HBel.out.alloc hsz _, by simp; omega⟩
          · rw [ByteArray.size_append, HQS.out]; rfl
          · rw [HR1.out]
            have e : (q ++ (⟨#[u]⟩ : ByteArray)).data.toList = q.data.toList ++ [u] := by simp
            rw [e]
      · have t5 : (((ps[i].1.kind : Nat) : Int) != 5) = true := by rw [bne_iff_ne]; omega
        have HR1 : Hid (rlitGo (ps.map (·.1)) = (q.data.toList, false)) := by rw [HR.out, HD.out]; simp [rlitGo, h5, Hid]
        clear h5 hokE hrow
        go_wp2
        go_ret2
        refine ⟨q, ?_, ?_, HB.out.trans (HBel.out.mono hw1)⟩
        · rw [HF.out, HR1.out, HOKT.out]; rfl
        · rw [HF.out, HR1.out]
end Go.Proofs.Ytnmbabaihfdljaa
