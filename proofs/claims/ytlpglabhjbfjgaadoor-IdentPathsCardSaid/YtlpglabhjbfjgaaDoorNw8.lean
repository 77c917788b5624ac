/- The walk over the reference's Path. -/
import Derived.Test.YtlpglabhjbfjgaaDoorNw7
namespace Go.Proofs.YtlpglabhjbfjgaaDoor
open Go.RowKit

theorem jn_snoc : ∀ (L : List Bs) (x : Bs), L ≠ [] → jn (L ++ [x]) = jn L ++ 47 :: x
  | [], _, h => absurd rfl h
  | [a], x, _ => by
    show jn (a :: [x]) = _
    rw [jn_cons a (List.cons_ne_nil x []), jn, jn, Lib.join_one, Lib.join_one]
  | a :: b :: r, x, _ => by
    have ih := jn_snoc (b :: r) x (List.cons_ne_nil _ _)
    show jn (a :: ((b :: r) ++ [x])) = _
    rw [jn_cons a (by simp), ih, jn_cons a (List.cons_ne_nil b r)]
    simp
theorem jn_takeS {ss : List ByteArray} {k : Nat} (hk : k < ss.length) : jn (datas (ss.take (k + 1))) = (if k = 0 then [] else jn (datas (ss.take k)) ++ [47]) ++ (ss.getD k ByteArray.empty).data.toList := by
  have e : datas (ss.take (k + 1)) = datas (ss.take k) ++ [(ss.getD k ByteArray.empty).data.toList] := by
    unfold datas
    rw [List.take_add_one, List.getElem?_eq_getElem hk, List.map_append]
    simp [List.getD, hk]
  rw [e]
  by_cases h0 : k = 0
  · subst h0
    rw [if_pos rfl, List.take_zero]
    show jn [_] = _
    rw [jn, Lib.join_one]; rfl
  · rw [if_neg h0, jn_snoc _ _ (by
      intro h
      have := congrArg List.length h
      rw [List.length_map, List.length_take, List.length_nil] at this
      omega)]
    simp

def RPathRel (w1 : World) (ss : List ByteArray) (f : Nat) (t4 t5 : Value) (wr : World) : Prop :=
  ∃ (k : Nat) (s : ByteArray), t5 = .int .i64 (k : Nat) ∧ t4 = .string s ∧ k ≤ ss.length ∧ f = ss.length - k ∧ allN ss k = true ∧ s.size ≤ 1000 ∧ (k = 0 → s.size = 0) ∧
    (((jn (datas (ss.take k))).length ≤ 512 ∧ s.data.toList = jn (datas (ss.take k))) ∨ (512 < (jn (datas (ss.take k))).length ∧ 512 < s.size)) ∧ wr = w1

theorem name_size {s : ByteArray} (h : nameF s.data.toList = true) : s.size ≤ 64 := by
  unfold nameF at h
  rw [Bool.and_eq_true, Bool.and_eq_true, decide_eq_true_eq, decide_eq_true_eq] at h
  rw [Lib.size_eq]; omega

set_option maxRecDepth 100000 in
set_option maxHeartbeats 3200000 in
theorem rpath_any (v : Value) (ss : List ByteArray) (hl : ss.length ≤ 1000000) (w : World) (h : StrsAt w v ss) : Calls Tryd.prog 15 #[v] w (PathPost (datas ss) w) := by
  obtain ⟨ao, cap, rfl⟩ := h.form
  have H := Lib.hid h
  clear h
  go_enter Tryd.func15, Tryd.ntmps15
  by_cases h0 : ss.length = 0
  · have HP : Hid (pathN (datas ss) = 1) := pathN_no (by rw [h0]; rfl)
    have t0 : ((ss.length : Int) == 0) = true := by rw [h0]; rfl
    clear h0
    go_wp2_with fail
    go_ret2
    unfold PathPost pathS
    rw [HP.out]
    exact ⟨_, rfl, rfl, Below.refl _ _⟩
  · have t0 : ((ss.length : Int) == 0) = false := by rw [beq_eq_false_iff_ne]; omega
    have hpos : 0 < ss.length := by omega
    clear h0
    go_wp2_with fail
    go_loopg [4, 5] ss.length (RPathRel w ss)
    case atStart => exact ⟨0, ⟨#[]⟩, rfl, rfl, Nat.zero_le _, rfl, rfl, by decide, fun _ => rfl, .inl ⟨by simp [jn, Lib.join], by simp [jn, Lib.join]⟩, rfl⟩
    case round =>
      obtain ⟨k, s, rfl, rfl, hk, rfl, hall, hsz, hs0, hcase, rfl⟩ := hrel
      have HALL := Lib.hid hall
      have HC := Lib.hid hcase
      have HS0 := Lib.hid hs0
      have HSS := Lib.hid (Lib.size_eq s)
      clear hall hcase hs0
      by_cases hlt : k < ss.length
      · obtain ⟨b, off, rfl, hbl, hc⟩ := H.out.at_ hlt
        have hii : (k : Int) < (ss.length : Int) := by omega
        have HAS := Lib.hid (allN_succ hlt)
        have HAN := Lib.hid (fun h => allN_no (ss := ss) hlt h)
        have HJ := Lib.hid (jn_takeS hlt)
        generalize ss.getD k ByteArray.empty = r at *
        have HRS := Lib.hid (Lib.size_eq r)
        go_wp2_with fail
        refine (rname_any r _).mono ?_
        rintro e w1 ⟨rfl, rfl⟩
        cases hn : nameF r.data.toList with
        | false =>
          have HP : Hid (pathN (datas ss) = 1) := pathN_no (by rw [HAN.out hn, Bool.and_false])
          clear hn
          go_wp2_with fail
          go_ret2
          unfold PathPost pathS
          rw [HP.out]
          exact ⟨_, rfl, rfl, Below.refl _ _⟩
        | true =>
          have hr64 := name_size hn
          have HA : Hid (allN ss (k + 1) = true) := by unfold Hid; rw [HAS.out, HALL.out, hn]; rfl
          clear hn HAS HAN
          by_cases hk0 : k = 0
          · subst hk0
            rw [Nat.add_zero] at hc
            have hz := HS0.out rfl
            have q1 : ¬ 9223372036854775807 < s.size + r.size := by omega
            have q2 : (s.size : Int) ≤ 512 := by omega
            have hse : s.data.toList = [] := List.length_eq_zero_iff.1 (by rw [← HSS.out]; exact hz)
            have HF : Hid ((s ++ r).data.toList = jn (datas (ss.take (0 + 1))) ∧ (s ++ r).size = r.size) := by
              refine ⟨?_, ?_⟩
              · rw [HJ.out, if_pos rfl]; simp [hse]
              · simp [hz]
            clear hse
            as_aux_lemma =>
            go_wp2_with fail
            go_roundg (ss.length - 1)
            case measure => omega
            case rel => exact ⟨1, s ++ r, by go_num, rfl, by omega, rfl, HA.out, by have := HF.out.2; omega, fun h => absurd h (by decide), .inl ⟨by
              have := HF.out.1
              rw [← this, ← Lib.size_eq]; have := HF.out.2; omega, HF.out.1⟩, rfl⟩
          · have hki : (0 : Int) < (k : Int) := by omega
            rw [if_neg hk0] at HJ
            have hjl : (jn (datas (ss.take (k + 1)))).length = (jn (datas (ss.take k))).length + 1 + r.size := by rw [HJ.out, HRS.out]; simp; omega
            by_cases hs5 : s.size ≤ 512
            · have q2 : (s.size : Int) ≤ 512 := by omega
              have q3 : ¬ 9223372036854775807 < s.size + 1 := by omega
              have hJ : s.data.toList = jn (datas (ss.take k)) ∧ (jn (datas (ss.take k))).length = s.size := by
                rcases HC.out with ⟨h1, h2⟩ | ⟨h1, h2⟩
                · exact ⟨h2, by rw [← h2, HSS.out]⟩
                · omega
              by_cases hs6 : s.size < 512
              · have q4 : ((s.size : Int) + 1) ≤ 512 := by omega
                have q5 : ¬ 9223372036854775807 < s.size + 1 + r.size := by omega
                have HF : Hid ((s ++ ⟨#[47]⟩ ++ r).data.toList = jn (datas (ss.take (k + 1))) ∧ (s ++ ⟨#[47]⟩ ++ r).size = s.size + 1 + r.size) := by
                  refine ⟨?_, ?_⟩
                  · rw [HJ.out, ← hJ.1]; simp
                  · simp; rfl
                have HJL := Lib.hid hJ.2
                clear hJ
                as_aux_lemma =>
                go_wp2_with fail
                go_roundg (ss.length - (k + 1))
                case measure => omega
                case rel => exact ⟨k + 1, s ++ ⟨#[47]⟩ ++ r, by go_num, rfl, by omega, rfl, HA.out, by have := HF.out.2; omega, fun h => by omega, by
                  have h2 := HF.out.2
                  have h3 := HJL.out
                  by_cases hq : (jn (datas (ss.take (k + 1)))).length ≤ 512
                  · exact .inl ⟨hq, HF.out.1⟩
                  · exact .inr ⟨by omega, by omega⟩, rfl⟩
              · have q4 : ¬ ((s.size : Int) + 1) ≤ 512 := by omega
                have HJL := Lib.hid hJ.2
                have HZ : Hid ((s ++ ⟨#[47]⟩ : ByteArray).size = s.size + 1) := by unfold Hid; simp; rfl
                clear hJ
                as_aux_lemma =>
                go_wp2_with fail
                go_roundg (ss.length - (k + 1))
                case measure => omega
                case rel => exact ⟨k + 1, s ++ ⟨#[47]⟩, by go_num, rfl, by omega, rfl, HA.out, by have := HZ.out; omega, fun h => by omega, .inr ⟨by have := HJL.out; omega, by have := HZ.out; omega⟩, rfl⟩
            · have q2 : decide ((s.size : Int) ≤ 512) = false := by simp; omega
              have q3 : ¬ ((s.size : Int) ≤ 512) := by omega
              have HJL : Hid (512 < (jn (datas (ss.take k))).length) := by
                rcases HC.out with ⟨h1, h2⟩ | ⟨h1, h2⟩
                · rw [← h2, ← HSS.out] at h1; omega
                · exact h1
              as_aux_lemma =>
              go_wp2_with fail
              go_roundg (ss.length - (k + 1))
              case measure => omega
              case rel => exact ⟨k + 1, s, by go_num, rfl, by omega, rfl, HA.out, hsz, fun h => by omega, .inr ⟨by have := HJL.out; omega, by omega⟩, rfl⟩
      · have he : k = ss.length := by omega
        subst he
        have HP := Lib.hid (pathN_of hpos HALL.out)
        have HC2 := HC.out
        rw [List.take_length] at HC2
        by_cases hbig : 512 < s.size
        · have hb : (512 : Int) < (s.size : Int) := by omega
          have HQ : Hid (pathN (datas ss) = 3) := by
            unfold Hid
            rw [HP.out, if_pos]
            rcases HC2 with ⟨h1, h2⟩ | ⟨h1, h2⟩
            · rw [← h2, ← HSS.out] at h1; omega
            · exact h1
          clear HC2 HP
          go_wp2_with fail
          go_ret2
          unfold PathPost pathS
          rw [HQ.out]
          exact ⟨_, rfl, rfl, Below.refl _ _⟩
        · have hb : ¬ (512 : Int) < (s.size : Int) := by omega
          have HQ : Hid (pathN (datas ss) = 0 ∧ s.data.toList = jn (datas ss)) := by
            rcases HC2 with ⟨h1, h2⟩ | ⟨h1, h2⟩
            · exact ⟨by rw [HP.out, if_neg (by omega)], h2⟩
            · omega
          clear HC2 HP
          go_wp2_with fail
          go_ret2
          unfold PathPost pathS
          rw [HQ.out.1]
          exact ⟨_, rfl, HQ.out.2, Below.refl _ _⟩
end Go.Proofs.YtlpglabhjbfjgaaDoor
