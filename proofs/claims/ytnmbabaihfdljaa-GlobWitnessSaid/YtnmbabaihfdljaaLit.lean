/- The walks over both Literals. -/
import Derived.Test.YtnmbabaihfdljaaRef5
namespace Go.Proofs.Ytnmbabaihfdljaa
open Go.RowKit
open Bs

def litGo : List El → List UInt8 × Bool
  | [] => ([], true)
  | e :: r => if e.lit = true then (UInt8.ofNat e.ch :: (litGo r).1, (litGo r).2) else ([], false)

def rlitGo : List RE → List UInt8 × Bool
  | [] => ([], true)
  | e :: r => if e.kind = 5 then (UInt8.ofNat (e.items.headD (0, 0)).1 :: (rlitGo r).1, (rlitGo r).2) else ([], false)

def literalF (p : List UInt8) : List UInt8 × Bool := if 4096 < p.length then ([], false) else match els p with | none => ([], false) | some L => litGo L
def rliteralF (p : List UInt8) : List UInt8 × Bool := if 4096 < p.length then ([], false) else match rels p with | none => ([], false) | some L => rlitGo L

def LitPost (R : List UInt8 × Bool) (w : World) (e : Ending) (w' : World) : Prop :=
  ∃ q : ByteArray, e = .returned (.tuple #[.string q, .bool R.2]) ∧ q.data.toList = R.1 ∧ Below w.heap.size w w'

def bytesV (bs : List UInt8) : List Value := bs.map fun b => Value.int .u8 (b.toNat : Int)

def LitRel (w1 : World) (L : List El) (f : Nat) (t6 t18 : Value) (wr : World) : Prop :=
  ∃ (i : Nat) (bs : List UInt8), t18 = .int .i64 (i : Nat) ∧ i ≤ L.length ∧ bs.length = i ∧ f = L.length - i ∧ litGo L = (bs ++ (litGo (L.drop i)).1, (litGo (L.drop i)).2) ∧
    wr.ownsRow w1.heap.size 5 1 t6 i (bytesV bs) ∧ Below w1.heap.size w1 wr ∧ w1.heap.size ≤ wr.heap.size

theorem Try.info5 : (Try.prog.info? 5).map (fun i => (i.zero, i.size, i.bytes)) = some (some (.int .u8 0), 1, 1) := by kernel_rfl
theorem Try.info5' : ∃ i, Try.prog.info? 5 = some i ∧ i.zero = some (.int .u8 0) ∧ i.size = 1 ∧ i.bytes = 1 := info_parts Try.info5

theorem El.cells_len (e : El) : e.cells.length = 7 := rfl

theorem el_at {w : World} {base : Nat} {v : Value} {L : List El} (h : w.ownsRow base 45 7 v L.length (L.flatMap El.cells)) {k : Nat} (hk : k < L.length) :
    ∃ g cap, v = .slice (some ⟨g, 0, none⟩) L.length cap ∧ base ≤ g ∧ g < w.heap.size ∧
      w.cell? ⟨g, k * 7, none⟩ = some (.int .u64 (wd L[k].set 0 : Nat)) ∧ w.cell? ⟨g, k * 7 + 1, none⟩ = some (.int .u64 (wd L[k].set 1 : Nat)) ∧ w.cell? ⟨g, k * 7 + 2, none⟩ = some (.int .u64 (wd L[k].set 2 : Nat)) ∧ w.cell? ⟨g, k * 7 + 3, none⟩ = some (.int .u64 (wd L[k].set 3 : Nat)) ∧
      w.cell? ⟨g, k * 7 + 4, none⟩ = some (.bool L[k].many) ∧ w.cell? ⟨g, k * 7 + 5, none⟩ = some (.bool L[k].lit) ∧ w.cell? ⟨g, k * 7 + 6, none⟩ = some (.int .u8 (L[k].ch : Nat)) := by
  obtain ⟨g, cap, h1, h2, h3, h4, h5⟩ := ownsRow_at (f := El.cells) h El.cells_len (by decide) hk
  exact ⟨g, cap, h1, h2, h3, h5 0 _ rfl, h5 1 _ rfl, h5 2 _ rfl, h5 3 _ rfl, h5 4 _ rfl, h5 5 _ rfl, h5 6 _ rfl⟩

theorem parseF_ch {f : Nat} : ∀ {l : List UInt8} {L : List El}, parseF f l = some L → ∀ e ∈ L, e.ch < 256 := by
  induction f with
  | zero => intro l L h; cases h
  | succ f ih =>
    intro l L h e he
    rw [parseF] at h
    split at h
    · simp at h; subst h; cases he
    · cases hr : firstF l with
      | none => rw [hr] at h; cases h
      | some x =>
        obtain ⟨E, n⟩ := x
        rw [hr] at h
        simp only at h
        cases hq : parseF f (l.drop n) with
        | none => rw [hq] at h; cases h
        | some L' =>
          rw [hq] at h
          simp at h
          subst h
          cases List.mem_cons.1 he with
          | inl h =>
            subst h
            cases l with
            | nil => cases hr
            | cons c r =>
              have hc := c.toNat_lt
              simp only [firstF] at hr
              split at hr
              · split at hr <;> (simp at hr; rw [← hr.1]; simp)
              · split at hr
                · simp at hr; rw [← hr.1]; simp
                · split at hr
                  · split at hr
                    · cases hr
                    · simp at hr; rw [← hr.1]; simp
                  · split at hr
                    · cases r with
                      | nil => cases hr
                      | cons d r => have := d.toNat_lt; simp at hr; rw [← hr.1]; simp [litEl]; omega
                    · simp at hr; rw [← hr.1]; simp [litEl]; omega
          | inr h => exact ih hq e h

set_option maxRecDepth 100000 in
set_option maxHeartbeats 1600000 in
theorem literal_walk (p : ByteArray) (hp : p.size ≤ maxLen) (w : World) :
    Calls Try.prog 17 #[.string p] w (LitPost (literalF p.data.toList) w) := by
  obtain ⟨i5, hi5⟩ := Try.info5'
  have HI5 := Lib.hid hi5
  clear hi5
  go_enter Try.func17, Try.ntmps17
  go_wp2_with fail
  refine (parse_any p hp w).mono ?_
  rintro e w1 ⟨hb, hq⟩
  have HB := Lib.hid hb
  by_cases h : 4096 < p.data.toList.length
  · rw [if_pos h] at hq
    subst hq
    have HF : Hid (literalF p.data.toList = ([], false)) := by unfold literalF; rw [if_pos h]; rfl
    clear h hb
    go_wp2
    go_ret2
    refine ⟨⟨#[]⟩, ?_, ?_, HB.out⟩
    · rw [HF.out]; rfl
    · rw [HF.out]
  · rw [if_neg h] at hq
    cases he : els p.data.toList with
    | none =>
      rw [he] at hq
      subst hq
      have HF : Hid (literalF p.data.toList = ([], false)) := by unfold literalF; rw [if_neg h, he]; rfl
      clear h he hb
      go_wp2
      go_ret2
      refine ⟨⟨#[]⟩, ?_, ?_, HB.out⟩
      · rw [HF.out]; rfl
      · rw [HF.out]
    | some L =>
      rw [he] at hq
      obtain ⟨v, rfl, hown, hlen⟩ := hq
      have hlen' : L.length ≤ 4096 := by omega
      have HF : Hid (literalF p.data.toList = litGo L) := by unfold literalF; rw [if_neg h, he]; rfl
      have HCH := Lib.hid (parseF_ch he)
      have hw1 := hb.size
      obtain ⟨ao, cap, rfl⟩ := ownsRow_form hown
      have HOWN := Lib.hid hown
      clear h he hb hown hlen
      go_wp2_with fail
      go_loopg [6, 18] L.length (LitRel w1 L)
      case atStart => exact ⟨0, [], rfl, Nat.zero_le _, rfl, rfl, by simp, World.ownsRow_nil _ _ _ _, Below.refl _ _, Nat.le_refl _⟩
      case round =>
        obtain ⟨i, bs, rfl, hi, hbl, hf, hR, hrow, hbel, hsz⟩ := hrel
        have HR := Lib.hid hR
        have HROW := Lib.hid hrow
        have HBel := Lib.hid hbel
        have HFu := Lib.hid hf
        have HBL := Lib.hid hbl
        clear hR hrow hbel hf hbl
        by_cases hend : i = L.length
        · subst hend
          have HR1 : Hid (litGo L = (bs, true)) := by rw [HR.out, List.drop_length]; simp [litGo, Hid]
          go_wp2_with (refine wpList_str_of_bytes rfl 49 9 5 _ rfl Try.underlying49 Try.underlying5 Try.underlying9 _ rfl w1.heap.size L.length bs HROW.out ?_)
          go_ret2
          refine ⟨⟨bs.toArray⟩, ?_, ?_, HB.out.trans (HBel.out.mono hw1)⟩
          · rw [HF.out, HR1.out]; rfl
          · rw [HF.out, HR1.out]
        · have hlt : i < L.length := by omega
          clear hend
          obtain ⟨g, c0, hv, hbg, hgw, k0, k1, k2, k3, k4, k5, k6⟩ := el_at (ownsRow_below HOWN.out HBel.out) hlt
          injection hv with e1 e2 e3
          subst e1
          subst e3
          have hch : L[i].ch < 256 := HCH.out _ (List.getElem_mem hlt)
          have HD := Lib.hid (List.drop_eq_getElem_cons hlt)
          generalize L[i] = E at *
          cases hlit : E.lit with
          | false =>
            rw [hlit] at k5
            have HR1 : Hid (litGo L = (bs, false)) := by rw [HR.out, HD.out]; simp [litGo, hlit, Hid]
            clear hlit
            go_wp2_with (refine wpList_str_of_bytes rfl 49 9 5 _ rfl Try.underlying49 Try.underlying5 Try.underlying9 _ rfl w1.heap.size i bs (HROW.out.alloc _) ?_)
            go_ret2
            refine ⟨⟨bs.toArray⟩, ?_, ?_, HB.out.trans ((HBel.out.alloc hsz _).mono hw1)⟩
            · rw [HF.out, HR1.out]; rfl
            · rw [HF.out, HR1.out]
          | true =>
            rw [hlit] at k5
            obtain ⟨u, hu⟩ : ∃ u : UInt8, E.ch = u.toNat := ⟨UInt8.ofNat E.ch, by simp; omega⟩
            have HR1 : Hid (litGo L = ((bs ++ [u]) ++ (litGo (L.drop (i + 1))).1, (litGo (L.drop (i + 1))).2)) := by rw [HR.out, HD.out]; simp [litGo, hlit, hu, Hid]
            rw [hu] at k6
            clear hlit hu hch
            go_wp2_with (at_builtin; refine wpList_append2 rfl _ _ 49 rfl w1.heap.size 5 i5 (.int .u8 0) 1 1 Try.underlying49 HI5.out rfl (by decide) _ _ _ rfl ((HROW.out.alloc _).alloc _) ⟨wr.heap.size + 1, 0, none⟩ 1 1 [.int .u8 (u.toNat : Int)] rfl rfl (cells_newAt (by simp) _ 5 (0, 0)) rfl (by unfold maxLen; omega) (by omega) (by simp; omega) ?_; intro v' w2 hown2 hgrow2 _; have HO2 := Lib.hid hown2; have HG2 := Lib.hid hgrow2; clear hown2 hgrow2)
            go_roundg (L.length - (i + 1))
            case measure => have := HFu.out; omega
            case rel =>
              refine ⟨i + 1, bs ++ [u], by go_num, by omega, by simp [HBL.out], rfl, HR1.out, ?_, ?_, ?_⟩
              · have := HO2.out
                unfold bytesV at this ⊢
                rw [List.map_append]; exact this
              · exact ((HBel.out.alloc hsz _).alloc (by simp; omega) _).grown HG2.out (by simp; omega) (fun j hj => (HROW.out.lt j hj).1)
              · have := HG2.out.size; simp at this; omega
end Go.Proofs.Ytnmbabaihfdljaa
