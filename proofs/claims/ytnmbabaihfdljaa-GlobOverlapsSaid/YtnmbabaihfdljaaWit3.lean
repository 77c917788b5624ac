/- The walk over the reference's places. (Under way.) -/
import Derived.Test.YtnmbabaihfdljaaPlain6
import Derived.StillTailTactics
import Derived.Deep.CutBlock
import Derived.Deep.RegionWith
namespace Go.Proofs.Ytnmbabaihfdljaa
open Go.RowKit
open Bs

def PlacesRel (w1 : World) (A B : List AE) (f : Nat) (t5 t6 : Value) (wr : World) : Prop :=
  ∃ (i : Nat) (ps : List Plc), t6 = .int .i64 (i : Nat) ∧ i ≤ ps.length ∧ f + i = (A.length + 1) * (B.length + 1) ∧ PInv A B ps i ∧ wr.ownsRow w1.heap.size 63 5 t5 ps.length (ps.flatMap Plc.cells) ∧ Below w1.heap.size w1 wr

def PlacesPost (A B : List AE) (w : World) (e : Ending) (w' : World) : Prop :=
  ∃ (v : Value) (ps : List Plc), e = .returned v ∧ PInv A B ps ps.length ∧ w'.ownsRow w.heap.size 63 5 v ps.length (ps.flatMap Plc.cells) ∧ Below w.heap.size w w'

/-- the round's middle: some of the place's successors are put in -/
def Stage (w : World) (A B : List AE) (P : Plc) (i g7 : Nat) (D : List (Nat × Nat)) (s5 : Value) (wx : World) : Prop :=
  ∃ ps : List Plc, ps[i]? = some P ∧ PInv A B ps i ∧ wx.ownsRow w.heap.size 63 5 s5 ps.length (ps.flatMap Plc.cells) ∧
    wx.heap[g7]? = some (.cells #[.int .i64 (P.a : Nat), .int .i64 (P.b : Nat), .int .i64 (P.from_ : Nat), .bool P.moved, .int .u8 (P.byte : Nat)] 63) ∧
    s5.ownBlock ≠ some g7 ∧ Below w.heap.size w wx ∧ w.heap.size ≤ g7 ∧ ∀ r ∈ D, ∃ q ∈ ps, (q.a, q.b) = r

theorem Stage.put {w wx w2 : World} {A B : List AE} {P p : Plc} {i g7 : Nat} {D : List (Nat × Nat)} {s5 v' : Value} {ps : List Plc}
    (h1 : ps[i]? = some P) (h2 : PInv A B ps i) (h3 : wx.ownsRow w.heap.size 63 5 s5 ps.length (ps.flatMap Plc.cells))
    (h4 : wx.heap[g7]? = some (.cells #[.int .i64 (P.a : Nat), .int .i64 (P.b : Nat), .int .i64 (P.from_ : Nat), .bool P.moved, .int .u8 (P.byte : Nat)] 63))
    (h5 : s5.ownBlock ≠ some g7) (h6 : Below w.heap.size w wx) (h7 : w.heap.size ≤ g7) (h8 : ∀ r ∈ D, ∃ q ∈ ps, (q.a, q.b) = r)
    (hfrom : p.from_ = i) (hfol : Follows A B P p) (hbd : p.a ≤ A.length ∧ p.b ≤ B.length ∧ p.byte < 256)
    (hrow : w2.ownsRow w.heap.size 63 5 v' (putL ps p).length ((putL ps p).flatMap Plc.cells)) (hgrow : wx.grownBy w2 s5.ownBlock)
    (hown : v'.ownBlock = s5.ownBlock ∨ ∃ n, v'.ownBlock = some n ∧ wx.heap.size ≤ n) : Stage w A B P i g7 (D ++ [(p.a, p.b)]) v' w2 := by
  obtain ⟨hi, hP⟩ := List.getElem?_eq_some_iff.1 h1
  have hg7 := (Array.getElem?_eq_some_iff.1 h4).1
  subst hP
  refine ⟨putL ps p, ?_, h2.put hi hfrom hfol hbd (by omega), hrow, (hgrow.block g7 hg7 (fun e => h5 e.symm)).trans h4, ?_, h6.grown hgrow h6.size (fun k hk => (h3.lt k hk).1), h7, ?_⟩
  · obtain ⟨a, b⟩ := putL_get (p := p) hi
    rw [List.getElem?_eq_getElem a, b]
  · rcases hown with e | ⟨n, e, hn⟩
    · rw [e]; exact h5
    · rw [e]; intro e'; injection e' with e'; omega
  · intro r hr
    rcases List.mem_append.1 hr with hr | hr
    · obtain ⟨q, hq, hq2⟩ := h8 r hr
      exact ⟨q, mem_putL hq, hq2⟩
    · simp only [List.mem_singleton] at hr
      subst hr
      exact has_putL ps p

/-- all that follows the place is in: the round is done -/
theorem Stage.close {w wx : World} {A B : List AE} {P : Plc} {i g7 : Nat} {D : List (Nat × Nat)} {s5 : Value}
    (h : Stage w A B P i g7 D s5 wx) (hD : ∀ r ∈ sucA A B (P.a, P.b), r ∈ D) {f : Nat} (hf : f + i = (A.length + 1) * (B.length + 1)) :
    0 < f ∧ PlacesRel w A B (f - 1) s5 (.int .i64 ((i + 1 : Nat) : Int)) wx := by
  obtain ⟨ps, h1, h2, h3, h4, h5, h6, h7, h8⟩ := h
  obtain ⟨hi, hP⟩ := List.getElem?_eq_some_iff.1 h1
  have hl := h2.len
  refine ⟨by omega, i + 1, ps, rfl, hi, by omega, ⟨h2.first, h2.nd, h2.bd, h2.how, ?_⟩, h3, h6⟩
  intro j hj hjl r hr
  by_cases e : j = i
  · subst e
    subst hP
    exact h8 r (hD r hr)
  · exact h2.cl j (by omega) hjl r hr

theorem Stage.below {w wx : World} {A B : List AE} {P : Plc} {i g7 : Nat} {D : List (Nat × Nat)} {s5 : Value} (h : Stage w A B P i g7 D s5 wx) : Below w.heap.size w wx := by
  obtain ⟨ps, h1, h2, h3, h4, h5, h6, h7, h8⟩ := h
  exact h6

theorem Stage.cells {w wx : World} {A B : List AE} {P : Plc} {i g7 : Nat} {D : List (Nat × Nat)} {s5 : Value} (h : Stage w A B P i g7 D s5 wx) :
    wx.cell? ⟨g7, 0, none⟩ = some (.int .i64 (P.a : Nat)) ∧ wx.cell? ⟨g7, 1, none⟩ = some (.int .i64 (P.b : Nat)) := by
  obtain ⟨ps, h1, h2, h3, h4, h5, h6, h7, h8⟩ := h
  exact ⟨by rw [cell_of_blk h4]; rfl, by rw [cell_of_blk h4]; rfl⟩

/-- memory beside it changes nothing -/
theorem Stage.keep {w wx w2 : World} {A B : List AE} {P : Plc} {i g7 : Nat} {D : List (Nat × Nat)} {s5 : Value} (h : Stage w A B P i g7 D s5 wx) (hb : Below wx.heap.size wx w2) : Stage w A B P i g7 D s5 w2 := by
  obtain ⟨ps, h1, h2, h3, h4, h5, h6, h7, h8⟩ := h
  have hg := (Array.getElem?_eq_some_iff.1 h4).1
  exact ⟨ps, h1, h2, ownsRow_below h3 hb, (hb.block _ hg).trans h4, h5, h6.trans (hb.mono h6.size), h7, h8⟩

def sucL (A : List AE) (a b : Nat) : List (Nat × Nat) := if a < A.length ∧ (A.getD a noA).1 = true then [(a + 1, b)] else []
def sucR (B : List AE) (a b : Nat) : List (Nat × Nat) := if b < B.length ∧ (B.getD b noA).1 = true then [(a, b + 1)] else []

theorem suc_none {A B : List AE} {a b : Nat} (h : ¬ (a < A.length ∧ b < B.length ∧ meetA (A.getD a noA) (B.getD b noA) = true)) : ∀ r ∈ sucA A B (a, b), r ∈ sucL A a b ++ sucR B a b := by
  intro r hr
  rcases sucA_cases hr with ⟨h1, h2, rfl⟩ | ⟨h1, h2, rfl⟩ | ⟨h1, h2, h3, _⟩
  · apply List.mem_append_left
    unfold sucL
    rw [if_pos ⟨h1, h2⟩]; simp
  · apply List.mem_append_right
    unfold sucR
    rw [if_pos ⟨h1, h2⟩]; simp
  · exact (h ⟨h1, h2, h3⟩).elim

theorem suc_some {A B : List AE} {a b : Nat} : ∀ r ∈ sucA A B (a, b), r ∈ sucL A a b ++ sucR B a b ++ [(if (A.getD a noA).1 then a else a + 1, if (B.getD b noA).1 then b else b + 1)] := by
  intro r hr
  rcases sucA_cases hr with ⟨h1, h2, rfl⟩ | ⟨h1, h2, rfl⟩ | ⟨h1, h2, h3, rfl⟩
  · apply List.mem_append_left
    apply List.mem_append_left
    unfold sucL
    rw [if_pos ⟨h1, h2⟩]; simp
  · apply List.mem_append_left
    apply List.mem_append_right
    unfold sucR
    rw [if_pos ⟨h1, h2⟩]; simp
  · apply List.mem_append_right
    simp

/-- the stage, and the block of the new place -/
def QStage (w : World) (A B : List AE) (P : Plc) (i g7 : Nat) (D : List (Nat × Nat)) (s5 : Value) (g10 x y c : Nat) (wx : World) : Prop :=
  Stage w A B P i g7 D s5 wx ∧ wx.heap[g10]? = some (.cells #[.int .i64 (x : Nat), .int .i64 (y : Nat), .int .i64 (i : Nat), .bool true, .int .u8 (c : Nat)] 63) ∧ g10 ≠ g7 ∧ s5.ownBlock ≠ some g10 ∧ w.heap.size ≤ g10

theorem Stage.wrote {w wx w2 : World} {A B : List AE} {P : Plc} {i g7 g : Nat} {o : Obj} {D : List (Nat × Nat)} {s5 : Value} (h : Stage w A B P i g7 D s5 wx) (hW : Wrote g o wx w2) (h1 : g ≠ g7) (h2 : s5.ownBlock ≠ some g) (h3 : w.heap.size ≤ g) : Stage w A B P i g7 D s5 w2 := by
  obtain ⟨ps, e1, e2, e3, e4, e5, e6, e7, e8⟩ := h
  exact ⟨ps, e1, e2, ownsRow_wrote2 e3 hW h2, (hW.block _ h1.symm).trans e4, e5, e6.trans (hW.below h3), e7, e8⟩

theorem QStage.set0 {w wx : World} {A B : List AE} {P : Plc} {i g7 : Nat} {D : List (Nat × Nat)} {s5 : Value} {g10 x y c : Nat} (h : QStage w A B P i g7 D s5 g10 x y c wx) (x' : Nat) : QStage w A B P i g7 D s5 g10 x' y c (wx.setCell ⟨g10, 0, none⟩ (.int .i64 (x' : Nat))) := by
  obtain ⟨h1, h2, h3, h4, h5⟩ := h
  have hW := wrote_setCell h2 0 (.int .i64 (x' : Nat))
  exact ⟨h1.wrote hW h3 h4 h5, hW.at_, h3, h4, h5⟩

theorem QStage.set1 {w wx : World} {A B : List AE} {P : Plc} {i g7 : Nat} {D : List (Nat × Nat)} {s5 : Value} {g10 x y c : Nat} (h : QStage w A B P i g7 D s5 g10 x y c wx) (y' : Nat) : QStage w A B P i g7 D s5 g10 x y' c (wx.setCell ⟨g10, 1, none⟩ (.int .i64 (y' : Nat))) := by
  obtain ⟨h1, h2, h3, h4, h5⟩ := h
  have hW := wrote_setCell h2 1 (.int .i64 (y' : Nat))
  exact ⟨h1.wrote hW h3 h4 h5, hW.at_, h3, h4, h5⟩

theorem QStage.keep {w wx w2 : World} {A B : List AE} {P : Plc} {i g7 : Nat} {D : List (Nat × Nat)} {s5 : Value} {g10 x y c : Nat} (h : QStage w A B P i g7 D s5 g10 x y c wx) (hb : Below wx.heap.size wx w2) : QStage w A B P i g7 D s5 g10 x y c w2 := by
  obtain ⟨h1, h2, h3, h4, h5⟩ := h
  exact ⟨h1.keep hb, (hb.block _ (Array.getElem?_eq_some_iff.1 h2).1).trans h2, h3, h4, h5⟩

theorem QStage.new {w wx : World} {A B : List AE} {P : Plc} {i g7 : Nat} {D : List (Nat × Nat)} {s5 : Value} {x y c : Nat} (h : Stage w A B P i g7 D s5 wx) : QStage w A B P i g7 D s5 wx.heap.size x y c (wx.alloc (.cells #[.int .i64 (x : Nat), .int .i64 (y : Nat), .int .i64 (i : Nat), .bool true, .int .u8 (c : Nat)] 63)) := by
  have h' := h
  obtain ⟨ps, e1, e2, e3, e4, e5, e6, e7, e8⟩ := h
  refine ⟨h'.keep ((Below.refl _ _).alloc (Nat.le_refl _) _), hp_new rfl, ?_, ?_, e6.size⟩
  · have := (Array.getElem?_eq_some_iff.1 e4).1; omega
  · intro e
    have := (e3.lt _ e).2
    omega

/-- what the reference's common tells of two elements -/
def Comm (A B : List AE) (P : Plc) (s8 s9 : Value) : Prop :=
  ∃ (c : Nat) (ok : Bool), s8 = .int .u8 (c : Nat) ∧ s9 = .bool ok ∧ c < 256 ∧ (ok = true → (A.getD P.a noA).2 c = true ∧ (B.getD P.b noA).2 c = true) ∧ (ok = false → meetA (A.getD P.a noA) (B.getD P.b noA) = false)

set_option maxRecDepth 100000 in
set_option maxHeartbeats 4000000 in
theorem places_any (xs ys : List (RE × Value)) (xv yv : Value) (base : Nat) (w : World) (hx : ElemsAt w base xv xs) (hy : ElemsAt w base yv ys) (hxl : xs.length ≤ 40) (hyl : ys.length ≤ 40)
    (hxi : ∀ p ∈ xs, p.1.items.length ≤ 4096) (hyi : ∀ p ∈ ys, p.1.items.length ≤ 4096) :
    Calls Try.prog 30 #[xv, yv] w (PlacesPost (absP xs) (absP ys) w) := by
  obtain ⟨ax, cx, rfl⟩ := ownsRow_form hx.1
  obtain ⟨ay, cy, rfl⟩ := ownsRow_form hy.1
  have HX := Lib.hid hx
  have HY := Lib.hid hy
  have HXI := Lib.hid hxi
  have HYI := Lib.hid hyi
  clear hx hy hxi hyi
  go_enter Try.func30, Try.ntmps30
  go_wp2_with fail
  refine (show ∀ w1 : World, w1.ownsRow w.heap.size 63 5 (.slice (some ⟨w.heap.size, 0, none⟩) 1 1) 1 (Plc.cells ⟨0, 0, 0, false, 0⟩) → Below w.heap.size w w1 → Code.wp Try.prog _ _ _ w1 from ?_) _ ?_ ?_
  rotate_left
  · exact ⟨rfl, .inr ⟨w.heap.size, 1, _, rfl, Nat.le_refl _, hp_new rfl, Nat.le_refl _, by decide, rfl, rfl⟩⟩
  · exact (Below.refl _ _).alloc (Nat.le_refl _) _
  · intro w1 hrow hb1
    have HROW := Lib.hid hrow
    have HB1 := Lib.hid hb1
    clear hrow hb1
    have hAl : (absP xs).length = xs.length := by simp [absP]
    have hBl : (absP ys).length = ys.length := by simp [absP]
    have HAL := Lib.hid hAl
    have HBL := Lib.hid hBl
    clear hAl hBl
    go_loopg [5, 6] (((absP xs).length + 1) * ((absP ys).length + 1)) (PlacesRel w (absP xs) (absP ys))
    case atStart => exact ⟨0, [⟨0, 0, 0, false, 0⟩], rfl, Nat.zero_le _, rfl, PInv.start _ _, HROW.out, HB1.out⟩
    case round =>
      obtain ⟨i, ps, rfl, hi, hf, hinv, hrow, hbel⟩ := hrel
      have HINV := Lib.hid hinv
      have HR := Lib.hid hrow
      have HBel := Lib.hid hbel
      have HF := Lib.hid hf
      obtain ⟨ao, cap, rfl⟩ := ownsRow_form hrow
      have hps : ps.length ≤ 1681 := by
        have := hinv.len
        have h41 := Nat.mul_le_mul (show (absP xs).length + 1 ≤ 41 by have := HAL.out; omega) (show (absP ys).length + 1 ≤ 41 by have := HBL.out; omega)
        omega
      clear hinv hrow hbel hf
      by_cases hlt : i < ps.length
      · obtain ⟨g, c, hv, hbg, hgw, _, hcs⟩ := ownsRow_at (f := Plc.cells) HR.out Plc.cells_len (by decide) hlt
        injection hv with e1 e2 e3
        subst e1
        have g0 := hcs 0 _ rfl
        have g1 := hcs 1 _ rfl
        have g2 := hcs 2 _ rfl
        have g3 := hcs 3 _ rfl
        have g4 := hcs 4 _ rfl
        simp only [Nat.add_zero] at g0
        have hbd := HINV.out.bd ps[i] (List.getElem_mem hlt)
        rw [HAL.out, HBL.out] at hbd
        obtain ⟨hba, hbb, hbc⟩ := hbd
        have HP := Lib.hid (List.getElem?_eq_getElem hlt)
        clear hcs e2 e3
        have hii : (i : Int) < (ps.length : Int) := by omega
        generalize ps[i] = P at *
        go_upto_region 6 with fail
        go_cut [35] (fun s35 wx => s35 = .bool (decide (P.a < xs.length) && ((absP xs).getD P.a noA).1) ∧ Stage w (absP xs) (absP ys) P i wr.heap.size [] (.slice (some ⟨g, 0, none⟩) ps.length cap) wx)
        case first =>
          have HST0 : ∀ wx, Below (wr.heap.size + 1) (wr.alloc (.cells #[.int .i64 (P.a : Nat), .int .i64 (P.b : Nat), .int .i64 (P.from_ : Nat), .bool P.moved, .int .u8 (P.byte : Nat)] 63)) wx → Stage w (absP xs) (absP ys) P i wr.heap.size [] (.slice (some ⟨g, 0, none⟩) ps.length cap) wx := by
            intro wx hb
            refine ⟨ps, HP.out, HINV.out, ownsRow_below (HR.out.alloc _) (by simpa using hb), (hb.block _ (by omega)).trans (hp_new rfl), by simp [Value.ownBlock]; omega, (HBel.out.alloc HBel.out.size _).trans (hb.mono (by have := HBel.out.size; omega)), HBel.out.size, fun r hr => by cases hr⟩
          by_cases ha : P.a < xs.length
          · obtain ⟨gx, cx', hvx, _, hgx, k0, k1, _⟩ := elem_at (ElemsAt_below HX.out HBel.out) ha
            injection hvx with e1 e2 e3
            subst e1
            obtain rfl : cx' = cx := e3.symm
            have hai : (P.a : Int) < (xs.length : Int) := by omega
            go_wp2_with fail
            refine (many_any xs[P.a].1 xs[P.a].2 _).mono ?_
            rintro e w2 ⟨rfl, hb⟩
            go_wp2_with fail
            go_meet
            case rel =>
              refine ⟨?_, HST0 _ (by simpa using hb)⟩
              rw [absP_getD ha]
              simp [ha, RE.abs]
          · have hai : ¬ (P.a : Int) < (xs.length : Int) := by omega
            go_wp2_with fail
            go_meet
            case rel =>
              refine ⟨by simp [ha], HST0 _ (Below.refl _ _)⟩
        case rest =>
          obtain ⟨rfl, hst⟩ := hcut
          have HST := Lib.hid hst
          clear hst
          go_upto_if 35 with fail
          go_cut [5] (fun s5 wx => Stage w (absP xs) (absP ys) P i wr.heap.size (sucL (absP xs) P.a P.b) s5 wx)
          case first =>
            obtain ⟨ps1, h1, h2, h3, h4, h5, h6, h7, _⟩ := HST.out
            have c0 : wc.cell? ⟨wr.heap.size, 0, none⟩ = some (.int .i64 (P.a : Nat)) := by rw [cell_of_blk h4]; rfl
            have c1 : wc.cell? ⟨wr.heap.size, 1, none⟩ = some (.int .i64 (P.b : Nat)) := by rw [cell_of_blk h4]; rfl
            have HH1 := Lib.hid h1
            have HH2 := Lib.hid h2
            have HH3 := Lib.hid h3
            have HH4 := Lib.hid h4
            have HH5 := Lib.hid h5
            have HH6 := Lib.hid h6
            clear h1 h2 h3 h4 h5 h6 HST
            by_cases hc : P.a < xs.length ∧ ((absP xs).getD P.a noA).1 = true
            · have e : (decide (P.a < xs.length) && ((absP xs).getD P.a noA).1) = true := by simp only [hc.1, hc.2, decide_true, Bool.and_self]
              rw [e]
              clear e
              go_wp2_with fail
              rw [show ((P.a : Int) + 1) = ((P.a + 1 : Nat) : Int) by omega]
              refine (put_any ps1 ⟨P.a + 1, P.b, i, false, 0⟩ _ w.heap.size wc HH6.out.size (by have := HH2.out.len; have h41 := Nat.mul_le_mul (show (absP xs).length + 1 ≤ 41 by have := HAL.out; omega) (show (absP ys).length + 1 ≤ 41 by have := HBL.out; omega); omega) HH3.out).mono ?_
              rintro e w2 ⟨v', rfl, hrow, hgrow, hown⟩
              go_wp2_with fail
              go_meet
              case rel =>
                rw [show sucL (absP xs) P.a P.b = [] ++ [(P.a + 1, P.b)] by unfold sucL; rw [HAL.out, if_pos hc]; rfl]
                exact Stage.put (D := []) (p := ⟨P.a + 1, P.b, i, false, 0⟩) HH1.out HH2.out HH3.out HH4.out HH5.out HH6.out h7 (fun r hr => by cases hr) rfl (.inl ⟨rfl, by rw [HAL.out]; exact hc.1, hc.2, rfl, rfl⟩) ⟨by rw [HAL.out]; exact hc.1, by rw [HBL.out]; exact hbb, Nat.zero_lt_succ _⟩ hrow hgrow hown
            · have e : (decide (P.a < xs.length) && ((absP xs).getD P.a noA).1) = false := by
                rw [Bool.eq_false_iff]; intro h; rw [Bool.and_eq_true] at h; exact hc ⟨by simpa using h.1, h.2⟩
              rw [e]
              clear e
              go_wp2_with fail
              go_meet
              case rel =>
                rw [show sucL (absP xs) P.a P.b = [] by unfold sucL; rw [HAL.out, if_neg hc]]
                exact ⟨ps1, HH1.out, HH2.out, HH3.out, HH4.out, HH5.out, HH6.out, h7, fun r hr => by cases hr⟩
          case rest =>
            have HST2 := Lib.hid hcut
            clear hcut HST
            go_upto_region 8 with fail
            go_cut [57] (fun s57 wx => s57 = .bool (decide (P.b < ys.length) && ((absP ys).getD P.b noA).1) ∧ Stage w (absP xs) (absP ys) P i wr.heap.size (sucL (absP xs) P.a P.b) u5 wx)
            case first =>
              as_aux_lemma =>
              obtain ⟨c0, c1⟩ := HST2.out.cells
              by_cases hb : P.b < ys.length
              · obtain ⟨gy, cy', hvy, _, hgy, k0, k1, _⟩ := elem_at (ElemsAt_below HY.out HST2.out.below) hb
                injection hvy with e1 e2 e3
                subst e1
                obtain rfl : cy' = cy := e3.symm
                have hbi : (P.b : Int) < (ys.length : Int) := by omega
                go_wp2_with fail
                refine (many_any ys[P.b].1 ys[P.b].2 _).mono ?_
                rintro e w2 ⟨rfl, hb2⟩
                go_wp2_with fail
                go_meet
                case rel =>
                  refine ⟨?_, HST2.out.keep hb2⟩
                  rw [absP_getD hb]
                  simp [hb, RE.abs]
              · have hbi : ¬ (P.b : Int) < (ys.length : Int) := by omega
                go_wp2_with fail
                go_meet
                case rel => exact ⟨by simp [hb], HST2.out⟩
            case rest =>
              obtain ⟨rfl, hst⟩ := hcut
              have HST := Lib.hid hst
              clear hst HST2
              go_upto_if 57 with fail
              go_cut [5] (fun s5 wx => Stage w (absP xs) (absP ys) P i wr.heap.size (sucL (absP xs) P.a P.b ++ sucR (absP ys) P.a P.b) s5 wx)
              case first =>
                as_aux_lemma =>
                obtain ⟨c0, c1⟩ := HST.out.cells
                obtain ⟨ps1, h1, h2, h3, h4, h5, h6, h7, h8⟩ := HST.out
                have HH1 := Lib.hid h1
                have HH2 := Lib.hid h2
                have HH3 := Lib.hid h3
                have HH4 := Lib.hid h4
                have HH5 := Lib.hid h5
                have HH6 := Lib.hid h6
                have HH8 := Lib.hid h8
                clear h1 h2 h3 h4 h5 h6 h8 HST
                by_cases hc : P.b < ys.length ∧ ((absP ys).getD P.b noA).1 = true
                · have e : (decide (P.b < ys.length) && ((absP ys).getD P.b noA).1) = true := by simp only [hc.1, hc.2, decide_true, Bool.and_self]
                  rw [e]
                  clear e
                  go_wp2_with fail
                  rw [show ((P.b : Int) + 1) = ((P.b + 1 : Nat) : Int) by omega]
                  refine (put_any ps1 ⟨P.a, P.b + 1, i, false, 0⟩ _ w.heap.size wc HH6.out.size (by have := HH2.out.len; have h41 := Nat.mul_le_mul (show (absP xs).length + 1 ≤ 41 by have := HAL.out; omega) (show (absP ys).length + 1 ≤ 41 by have := HBL.out; omega); omega) HH3.out).mono ?_
                  rintro e w2 ⟨v', rfl, hrow, hgrow, hown⟩
                  go_wp2_with fail
                  go_meet
                  case rel =>
                    rw [show sucR (absP ys) P.a P.b = [(P.a, P.b + 1)] by unfold sucR; rw [HBL.out, if_pos hc]]
                    exact Stage.put (p := ⟨P.a, P.b + 1, i, false, 0⟩) HH1.out HH2.out HH3.out HH4.out HH5.out HH6.out h7 HH8.out rfl (.inr (.inl ⟨rfl, by rw [HBL.out]; exact hc.1, hc.2, rfl, rfl⟩)) ⟨by rw [HAL.out]; exact hba, by rw [HBL.out]; exact hc.1, Nat.zero_lt_succ _⟩ hrow hgrow hown
                · have e : (decide (P.b < ys.length) && ((absP ys).getD P.b noA).1) = false := by
                    rw [Bool.eq_false_iff]; intro h; rw [Bool.and_eq_true] at h; exact hc ⟨by simpa using h.1, h.2⟩
                  rw [e]
                  clear e
                  go_wp2_with fail
                  go_meet
                  case rel =>
                    rw [show sucR (absP ys) P.a P.b = [] by unfold sucR; rw [HBL.out, if_neg hc], List.append_nil]
                    exact ⟨ps1, HH1.out, HH2.out, HH3.out, HH4.out, HH5.out, HH6.out, h7, HH8.out⟩
              case rest =>
                have HST2 := Lib.hid hcut
                clear hcut HST
                obtain ⟨c0, c1⟩ := HST2.out.cells
                by_cases hend : P.a < xs.length ∧ P.b < ys.length
                · obtain ⟨ha, hb⟩ := hend
                  have ta : ((P.a : Int) == (xs.length : Int)) = false := by rw [beq_eq_false_iff_ne]; omega
                  have tb : ((P.b : Int) == (ys.length : Int)) = false := by rw [beq_eq_false_iff_ne]; omega
                  go_upto_region 11 with fail
                  go_cut [8, 9] (fun s8 s9 wx => Comm (absP xs) (absP ys) P s8 s9 ∧ Stage w (absP xs) (absP ys) P i wr.heap.size (sucL (absP xs) P.a P.b ++ sucR (absP ys) P.a P.b) u5 wx)
                  case first =>
                    as_aux_lemma =>
                    obtain ⟨gx, cx', hvx, _, hgx, k0, k1, hrx⟩ := elem_at (ElemsAt_below HX.out HST2.out.below) ha
                    injection hvx with e1 e2 e3
                    subst e1
                    obtain rfl : cx' = cx := e3.symm
                    obtain ⟨gy, cy', hvy, _, hgy, l0, l1, hry⟩ := elem_at (ElemsAt_below HY.out HST2.out.below) hb
                    injection hvy with f1 f2 f3
                    subst f1
                    obtain rfl : cy' = cy := f3.symm
                    have HRX := Lib.hid hrx
                    have HRY := Lib.hid hry
                    clear hrx hry e2 e3 f2 f3
                    have hai : (P.a : Int) < (xs.length : Int) := by omega
                    have hbi : (P.b : Int) < (ys.length : Int) := by omega
                    go_wp2_with fail
                    go_region_with (go_at_call 36; refine (common_any xs[P.a].1 ys[P.b].1 xs[P.a].2 ys[P.b].2 base _ (by first | exact HRX.out | exact HRX.out.drew) (by first | exact HRY.out | exact HRY.out.drew) (HXI.out _ (List.getElem_mem ha)) (HYI.out _ (List.getElem_mem hb))).mono ?_; rintro e w2 ⟨c', ok, rfl, hc, hok1, hok0, hb2⟩)
                    all_goals (
                      go_wp2_with fail
                      go_meet
                      case rel =>
                        refine ⟨⟨c', ok, rfl, rfl, hc, ?_, ?_⟩, HST2.out.keep (by first | exact hb2 | exact (Below.refl _ _).drew.trans hb2 | exact hb2.drew)⟩
                        · intro h
                          rw [absP_getD ha, absP_getD hb]
                          exact hok1 h
                        · intro h
                          rw [absP_getD ha, absP_getD hb]
                          exact hok0 h)
                  case rest =>
                    obtain ⟨⟨c', ok, rfl, rfl, hc, hok1, hok0⟩, hst⟩ := hcut
                    have HOK1 := Lib.hid hok1
                    have HOK0 := Lib.hid hok0
                    have HST := Lib.hid hst
                    clear hst hok1 hok0 HST2
                    cases ok with
                    | false =>
                      as_aux_lemma =>
                      have hcl := Stage.close HST.out (suc_none (by rw [HOK0.out rfl]; simp)) HF.out
                      have hg0 := hcl.1
                      have HCL := Lib.hid hcl.2
                      clear hcl
                      go_wp2_with fail
                      go_roundg (gk - 1)
                      case measure => omega
                      case rel =>
                        obtain ⟨j, ps', hj, r⟩ := HCL.out
                        exact ⟨j, ps', Eq.trans (by go_num) hj, r⟩
                    | true =>
                      as_aux_lemma =>
                      obtain ⟨hfa, hfb⟩ := HOK1.out rfl
                      have HFA := Lib.hid hfa
                      have HFB := Lib.hid hfb
                      obtain ⟨c0, c1⟩ := HST.out.cells
                      clear hfa hfb HOK0 HOK1
                      go_upto_region 13 with fail
                      go_cut [10] (fun s10 wx => ∃ g10, s10 = .pointer (some ⟨g10, 0, none⟩) ∧ QStage w (absP xs) (absP ys) P i wr.heap.size (sucL (absP xs) P.a P.b ++ sucR (absP ys) P.a P.b) u5 g10 P.a P.b c' wx)
                      case first =>
                        as_aux_lemma =>
                        go_wp2_with fail
                        go_meet
                        case rel => exact ⟨_, rfl, QStage.new HST.out⟩
                      case rest =>
                        obtain ⟨g10, rfl, hq⟩ := hcut
                        have HQ := Lib.hid hq
                        clear hq HST
                        go_upto_region 14 with fail
                        go_cut [108] (fun s wx => s = .bool (!((absP xs).getD P.a noA).1) ∧ QStage w (absP xs) (absP ys) P i wr.heap.size (sucL (absP xs) P.a P.b ++ sucR (absP ys) P.a P.b) u5 g10 P.a P.b c' wx)
                        case first =>
                          as_aux_lemma =>
                          obtain ⟨c0, c1⟩ := HQ.out.1.cells
                          obtain ⟨gx, cx', hvx, _, hgx, k0, k1, _⟩ := elem_at (ElemsAt_below HX.out HQ.out.1.below) ha
                          injection hvx with e1 e2 e3
                          subst e1
                          obtain rfl : cx' = cx := e3.symm
                          have hai : (P.a : Int) < (xs.length : Int) := by omega
                          go_wp2_with fail
                          refine (many_any xs[P.a].1 xs[P.a].2 _).mono ?_
                          rintro e w2 ⟨rfl, hb2⟩
                          go_wp2_with fail
                          go_meet
                          case rel =>
                            refine ⟨?_, HQ.out.keep hb2⟩
                            rw [absP_getD ha]
                            rfl
                        case rest =>
                          obtain ⟨rfl, hq⟩ := hcut
                          have HQ2 := Lib.hid hq
                          clear hq HQ
                          go_upto_if 108 with fail
                          go_cut [10] (fun s wx => s = .pointer (some ⟨g10, 0, none⟩) ∧ QStage w (absP xs) (absP ys) P i wr.heap.size (sucL (absP xs) P.a P.b ++ sucR (absP ys) P.a P.b) u5 g10 (if ((absP xs).getD P.a noA).1 then P.a else P.a + 1) P.b c' wx)
                          case first =>
                            as_aux_lemma =>
                            have hgb := HQ2.out.2.1
                            have q0 : wc.cell? ⟨g10, 0, none⟩ = some (.int .i64 (P.a : Nat)) := by rw [cell_of_blk hgb]; rfl
                            have qf := free_of_blk hgb 0
                            clear hgb
                            by_cases hm : ((absP xs).getD P.a noA).1 = true
                            · rw [hm]
                              go_wp2_with fail
                              go_meet
                              case rel =>
                                rw [if_pos hm]
                                exact ⟨rfl, HQ2.out⟩
                            · rw [Bool.not_eq_true] at hm
                              rw [hm]
                              go_wp2_with fail
                              go_meet
                              case rel =>
                                refine ⟨rfl, ?_⟩
                                rw [if_neg (by rw [hm]; decide)]
                                have h := HQ2.out.set0 (P.a + 1)
                                rw [show ((P.a + 1 : Nat) : Int) = (P.a : Int) + 1 by omega] at h
                                exact h
                          case rest =>
                            obtain ⟨rfl, hq⟩ := hcut
                            have HQ := Lib.hid hq
                            clear hq HQ2
                            go_upto_region 16 with fail
                            go_cut [119] (fun s wx => s = .bool (!((absP ys).getD P.b noA).1) ∧ QStage w (absP xs) (absP ys) P i wr.heap.size (sucL (absP xs) P.a P.b ++ sucR (absP ys) P.a P.b) u5 g10 (if ((absP xs).getD P.a noA).1 then P.a else P.a + 1) P.b c' wx)
                            case first =>
                              as_aux_lemma =>
                              obtain ⟨c0, c1⟩ := HQ.out.1.cells
                              obtain ⟨gy, cy', hvy, _, hgy, k0, k1, _⟩ := elem_at (ElemsAt_below HY.out HQ.out.1.below) hb
                              injection hvy with e1 e2 e3
                              subst e1
                              obtain rfl : cy' = cy := e3.symm
                              have hbi : (P.b : Int) < (ys.length : Int) := by omega
                              go_wp2_with fail
                              refine (many_any ys[P.b].1 ys[P.b].2 _).mono ?_
                              rintro e w2 ⟨rfl, hb2⟩
                              go_wp2_with fail
                              go_meet
                              case rel =>
                                refine ⟨?_, HQ.out.keep hb2⟩
                                rw [absP_getD hb]
                                rfl
                            case rest =>
                              obtain ⟨rfl, hq⟩ := hcut
                              have HQ2 := Lib.hid hq
                              clear hq HQ
                              go_upto_if 119 with fail
                              go_cut [10] (fun s wx => s = .pointer (some ⟨g10, 0, none⟩) ∧ QStage w (absP xs) (absP ys) P i wr.heap.size (sucL (absP xs) P.a P.b ++ sucR (absP ys) P.a P.b) u5 g10 (if ((absP xs).getD P.a noA).1 then P.a else P.a + 1) (if ((absP ys).getD P.b noA).1 then P.b else P.b + 1) c' wx)
                              case first =>
                                as_aux_lemma =>
                                have hgb := HQ2.out.2.1
                                have q0 : wc.cell? ⟨g10, 1, none⟩ = some (.int .i64 (P.b : Nat)) := by rw [cell_of_blk hgb]; rfl
                                have qf := free_of_blk hgb 1
                                clear hgb
                                by_cases hm : ((absP ys).getD P.b noA).1 = true
                                · rw [hm]
                                  go_wp2_with fail
                                  go_meet
                                  case rel =>
                                    rw [if_pos hm]
                                    exact ⟨rfl, HQ2.out⟩
                                · rw [Bool.not_eq_true] at hm
                                  rw [hm]
                                  go_wp2_with fail
                                  go_meet
                                  case rel =>
                                    refine ⟨rfl, ?_⟩
                                    have h := HQ2.out.set1 (P.b + 1)
                                    rw [show ((P.b + 1 : Nat) : Int) = (P.b : Int) + 1 by omega] at h
                                    rw [if_neg (c := ((absP ys).getD P.b noA).1 = true) (by rw [hm]; decide)]
                                    exact h
                              case rest =>
                                obtain ⟨rfl, hq⟩ := hcut
                                have HQ := Lib.hid hq
                                clear hq HQ2
                                obtain ⟨hst, hgb, _, _, _⟩ := HQ.out
                                obtain ⟨ps1, h1, h2, h3, h4, h5, h6, h7, h8⟩ := hst
                                have hxb : (if ((absP xs).getD P.a noA).1 = true then P.a else P.a + 1) ≤ xs.length := by split <;> omega
                                have hyb : (if ((absP ys).getD P.b noA).1 = true then P.b else P.b + 1) ≤ ys.length := by split <;> omega
                                have HSUC := Lib.hid (suc_some (A := absP xs) (B := absP ys) (a := P.a) (b := P.b))
                                have HFOL := Lib.hid (show Follows (absP xs) (absP ys) P ⟨if ((absP xs).getD P.a noA).1 = true then P.a else P.a + 1, if ((absP ys).getD P.b noA).1 = true then P.b else P.b + 1, i, true, c'⟩ from .inr (.inr ⟨rfl, by rw [HAL.out]; exact ha, by rw [HBL.out]; exact hb, HFA.out, HFB.out, rfl, rfl⟩))
                                generalize (if ((absP xs).getD P.a noA).1 = true then P.a else P.a + 1) = x' at *
                                generalize (if ((absP ys).getD P.b noA).1 = true then P.b else P.b + 1) = y' at *
                                have q0 : wc.cell? ⟨g10, 0, none⟩ = some (.int .i64 (x' : Nat)) := by rw [cell_of_blk hgb]; rfl
                                have q1 : wc.cell? ⟨g10, 1, none⟩ = some (.int .i64 (y' : Nat)) := by rw [cell_of_blk hgb]; rfl
                                have q2 : wc.cell? ⟨g10, 2, none⟩ = some (.int .i64 (i : Nat)) := by rw [cell_of_blk hgb]; rfl
                                have q3 : wc.cell? ⟨g10, 3, none⟩ = some (.bool true) := by rw [cell_of_blk hgb]; rfl
                                have q4 : wc.cell? ⟨g10, 4, none⟩ = some (.int .u8 (c' : Nat)) := by rw [cell_of_blk hgb]; rfl
                                have HH1 := Lib.hid h1
                                have HH2 := Lib.hid h2
                                have HH3 := Lib.hid h3
                                have HH4 := Lib.hid h4
                                have HH5 := Lib.hid h5
                                have HH6 := Lib.hid h6
                                have HH8 := Lib.hid h8
                                clear h1 h2 h3 h4 h5 h6 h8 HQ hgb
                                go_wp2_with fail
                                refine (put_any ps1 ⟨x', y', i, true, c'⟩ _ w.heap.size wc HH6.out.size (by have := HH2.out.len; have h41 := Nat.mul_le_mul (show (absP xs).length + 1 ≤ 41 by have := HAL.out; omega) (show (absP ys).length + 1 ≤ 41 by have := HBL.out; omega); omega) HH3.out).mono ?_
                                rintro e w2 ⟨v', rfl, hrow, hgrow, hown⟩
                                have hst := Stage.put (p := ⟨x', y', i, true, c'⟩) HH1.out HH2.out HH3.out HH4.out HH5.out HH6.out h7 HH8.out rfl HFOL.out ⟨by rw [HAL.out]; exact hxb, by rw [HBL.out]; exact hyb, hc⟩ hrow hgrow hown
                                have hcl := Stage.close hst HSUC.out HF.out
                                have hg0 := hcl.1
                                have HCL := Lib.hid hcl.2
                                clear hcl hst hrow hgrow hown
                                as_aux_lemma =>
                                go_wp2_with fail
                                go_roundg (gk - 1)
                                case measure => omega
                                case rel =>
                                  obtain ⟨j, ps', hj, r⟩ := HCL.out
                                  exact ⟨j, ps', Eq.trans (by go_num) hj, r⟩
                · as_aux_lemma =>
                  have hcl := Stage.close HST2.out (suc_none (by rw [HAL.out, HBL.out]; exact fun h => hend ⟨h.1, h.2.1⟩)) HF.out
                  have hg0 := hcl.1
                  have HCL := Lib.hid hcl.2
                  clear hcl
                  by_cases ha : P.a = xs.length
                  · have ta : ((P.a : Int) == (xs.length : Int)) = true := by rw [beq_iff_eq]; omega
                    go_wp2_with fail
                    go_roundg (gk - 1)
                    case measure => omega
                    case rel =>
                      obtain ⟨j, ps', hj, r⟩ := HCL.out
                      exact ⟨j, ps', Eq.trans (by go_num) hj, r⟩
                  · have ta : ((P.a : Int) == (xs.length : Int)) = false := by rw [beq_eq_false_iff_ne]; omega
                    have tb : ((P.b : Int) == (ys.length : Int)) = true := by rw [beq_iff_eq]; omega
                    go_wp2_with fail
                    go_roundg (gk - 1)
                    case measure => omega
                    case rel =>
                      obtain ⟨j, ps', hj, r⟩ := HCL.out
                      exact ⟨j, ps', Eq.trans (by go_num) hj, r⟩
      · have he : i = ps.length := by omega
        subst he
        go_wp2
        go_ret
        exact ⟨_, ps, rfl, HINV.out, HR.out, HBel.out⟩
end Go.Proofs.Ytnmbabaihfdljaa
