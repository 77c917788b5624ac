/- The walk over the reference's Elems. -/
import Derived.Test.YtnmbabaihfdljaaRef1
import Derived.Deep.CutBlock
namespace Go.Proofs.Ytnmbabaihfdljaa
open Go.RowKit
open Bs

/-- an element of a pattern, as the reference has it -/
structure RE where
  kind : Nat
  items : List (Nat × Nat)

/-- the element with which a pattern begins, and its length; F: fuel for the class -/
def relemF (F : Nat) (l : List UInt8) : Option (RE × Nat) :=
  match l with
  | [] => none
  | c :: r =>
    if c.toNat = 42 then (if r.head? = some 42 then some (⟨1, []⟩, 2) else some (⟨2, []⟩, 1))
    else if c.toNat = 63 then some (⟨3, []⟩, 1)
    else if c.toNat = 91 then (match rclsF F r [] with
      | none => none
      | some (its, rest) => if its = [] then none else some (⟨4, its⟩, (c :: r).length - rest.length))
    else if c.toNat = 92 then (match r with | [] => none | d :: _ => some (⟨5, [(d.toNat, d.toNat)]⟩, 2))
    else some (⟨5, [(c.toNat, c.toNat)]⟩, 1)

def relemsF (F : Nat) : Nat → List UInt8 → Option (List RE)
  | 0, _ => none
  | f + 1, l => if l = [] then some [] else match relemF F l with
    | none => none
    | some (E, n) => (relemsF F f (l.drop n)).map (E :: ·)

def rels (l : List UInt8) : Option (List RE) := relemsF (l.length + 1) (l.length + 1) l

def flatP (ps : List (RE × Value)) : List Value := ps.flatMap fun p => [.int .i64 (p.1.kind : Nat), p.2]
theorem flatP_snoc (ps : List (RE × Value)) (p : RE × Value) : flatP (ps ++ [p]) = flatP ps ++ [.int .i64 (p.1.kind : Nat), p.2] := by simp [flatP]

/-- the value v reads as the elements of ps -/
def ElemsAt (w : World) (B : Nat) (v : Value) (ps : List (RE × Value)) : Prop :=
  w.ownsRow B 52 2 v ps.length (flatP ps) ∧ ∀ p ∈ ps, w.ownsRow B 53 2 p.2 p.1.items.length (flatI p.1.items) ∧ (p.2.ownBlock = none ∨ p.2.ownBlock ≠ v.ownBlock)

def ElemsPost (l : List UInt8) (w : World) (e : Ending) (w' : World) : Prop :=
  Below w.heap.size w w' ∧
  (if 4096 < l.length then e = .returned (.tuple #[.slice none 0 0, .bool false])
   else match rels l with
    | none => e = .returned (.tuple #[.slice none 0 0, .bool false])
    | some L => ∃ v ps, e = .returned (.tuple #[v, .bool true]) ∧ ElemsAt w' w.heap.size v ps ∧ ps.map (·.1) = L ∧ L.length ≤ l.length)

def RElRel (w : World) (l : List UInt8) (f : Nat) (t4 t5 : Value) (wr : World) : Prop :=
  ∃ (k : Nat) (ps : List (RE × Value)), t5 = .int .i64 (k : Nat) ∧ k ≤ l.length ∧ ps.length ≤ k ∧ rels l = (relemsF (l.length + 1) f (l.drop k)).map (ps.map (·.1) ++ ·) ∧ l.length - k < f ∧
    ElemsAt wr w.heap.size t4 ps ∧ Below w.heap.size w wr ∧ w.heap.size ≤ wr.heap.size

def CutA (wr : World) (c k : Nat) (s6 s7 s8 : Value) (wx : World) : Prop :=
  ∃ b sv, s6 = .pointer (some ⟨b, 0, none⟩) ∧ s7 = .int .i64 ((k : Int) + 1) ∧ s8 = .bool true ∧ wx.heap[b]? = some (.cells #[.int .i64 5, sv] 52 (0, 0)) ∧
    wx.ownsRow wr.heap.size 53 2 sv 1 [.int .u8 (c : Nat), .int .u8 (c : Nat)] ∧ wr.heap.size ≤ b ∧ Below wr.heap.size wr wx ∧ wr.heap.size + 2 ≤ wx.heap.size

def CutB (wr : World) (F : Nat) (l : List UInt8) (k b : Nat) (s7 s8 : Value) (wx : World) : Prop :=
  ∃ (nx : Nat) (ok : Bool), s7 = .int .i64 (nx : Nat) ∧ s8 = .bool ok ∧ Below wr.heap.size wr wx ∧ wr.heap.size ≤ wx.heap.size ∧
    (match relemF F (l.drop k) with
      | none => ok = false
      | some (E, n) => ok = true ∧ nx = k + n ∧ 1 ≤ n ∧ nx ≤ l.length ∧ ∃ sv, wx.heap[b]? = some (.cells #[.int .i64 (E.kind : Nat), sv] 52 (0, 0)) ∧ wx.ownsRow wr.heap.size 53 2 sv E.items.length (flatI E.items))

theorem cutA_1 (wr : World) (c k : Nat) (o : Obj) (h : o = .cells #[.int .u8 (c : Nat), .int .u8 (c : Nat)] 53) :
    CutA wr c k (.pointer (some ⟨wr.heap.size + 1, 0, none⟩)) (.int .i64 ((k : Int) + 1)) (.bool true) ((wr.alloc o).alloc (.cells #[.int .i64 5, .slice (some ⟨wr.heap.size, 0, none⟩) 1 1] 52)) := by
  subst h
  refine ⟨_, _, rfl, rfl, rfl, hp_new (by simp), ⟨rfl, .inr ⟨wr.heap.size, 1, _, rfl, Nat.le_refl _, (hp_old (by simp)).trans (hp_new rfl), by omega, by decide, rfl, rfl⟩⟩, by omega, ((Below.refl _ _).alloc (Nat.le_refl _) _).alloc (by simp) _, by simp⟩
theorem cutA_2 (wr : World) (c k : Nat) (o : Obj) (h : o = .cells #[.int .i64 5, .slice (some ⟨wr.heap.size + 1, 0, none⟩) 1 1] 52) :
    CutA wr c k (.pointer (some ⟨wr.heap.size, 0, none⟩)) (.int .i64 ((k : Int) + 1)) (.bool true) ((wr.alloc o).alloc (.cells #[.int .u8 (c : Nat), .int .u8 (c : Nat)] 53)) := by
  subst h
  refine ⟨_, _, rfl, rfl, rfl, (hp_old (by simp)).trans (hp_new rfl), ⟨rfl, .inr ⟨wr.heap.size + 1, 1, _, rfl, by omega, hp_new (by simp), by omega, by decide, rfl, rfl⟩⟩, by omega, ((Below.refl _ _).alloc (Nat.le_refl _) _).alloc (by simp) _, by simp⟩

theorem CutA.drew {wr : World} {c k : Nat} {s6 s7 s8 : Value} {wx : World} (h : CutA wr c k s6 s7 s8 wx) : CutA wr c k s6 s7 s8 wx.drew := by
  obtain ⟨b, sv, h1, h2, h3, h4, h5, h6, h7, h8⟩ := h
  exact ⟨b, sv, h1, h2, h3, h4, h5, h6, h7.drew, h8⟩

theorem Try.info52 : (Try.prog.info? 52).map (fun i => (i.zero, i.size, i.bytes)) = some (some (.agg #[.int .i64 0, .slice none 0 0]), 2, 32) := by kernel_rfl
theorem Try.info52' : ∃ i, Try.prog.info? 52 = some i ∧ i.zero = some (.agg #[.int .i64 0, .slice none 0 0]) ∧ i.size = 2 ∧ i.bytes = 32 := info_parts Try.info52

set_option maxRecDepth 100000 in
set_option maxHeartbeats 1600000 in
theorem elems_any (s : ByteArray) (hs : s.size ≤ maxLen) (w : World) :
    Calls Try.prog 23 #[.string s] w (ElemsPost s.data.toList w) := by
  have HS := Lib.hid (Lib.size_eq s)
  unfold maxLen at hs
  by_cases hlong : 4096 < s.size
  · have HF : Hid (4096 < s.data.toList.length) := by rw [← HS.out]; exact hlong
    have h2 : (4096 : Int) < s.size := by omega
    go_enter Try.func23, Try.ntmps23
    go_wp2
    go_ret2
    refine ⟨Below.refl _ _, ?_⟩
    rw [if_pos HF.out]; rfl
  · have HL : Hid (¬ 4096 < s.data.toList.length) := by rw [← HS.out]; exact hlong
    have h2 : ¬ (4096 : Int) < s.size := by omega
    have h3 : s.size ≤ 4096 := by omega
    obtain ⟨i0, hi⟩ := Try.info52'
    have HI := Lib.hid hi
    clear hi
    go_enter Try.func23, Try.ntmps23
    go_wp2_with fail
    go_loopg [4, 5] (s.data.toList.length + 1) (RElRel w s.data.toList)
    case atStart =>
      exact ⟨0, [], rfl, by omega, by simp, by simp [rels], by omega, ⟨World.ownsRow_nil _ _ _ _, by simp⟩, Below.refl _ _, Nat.le_refl _⟩
    case round =>
      obtain ⟨k, ps, rfl, hk1, hk2, hR, hf, hown, hbel, hsz⟩ := hrel
      have hks : k ≤ s.size := by have := HS.out; omega
      obtain ⟨g, rfl⟩ : ∃ g, gk = g + 1 := ⟨gk - 1, by omega⟩
      have HR := Lib.hid hR
      have HOWN := Lib.hid hown
      have HBel := Lib.hid hbel
      have HF := Lib.hid hf
      have HK := Lib.hid hk1
      clear hR hown hbel hf hk1
      by_cases hend : k = s.size
      · have HR1 : Hid (rels s.data.toList = some (ps.map (·.1))) := by
          rw [HR.out, List.drop_of_length_le (by rw [← HS.out]; omega)]; simp [relemsF, Hid]
        have hlt : ¬ ((k : Int) < s.size) := by omega
        clear hend
        go_wp2
        go_ret2
        refine ⟨HBel.out, ?_⟩
        rw [if_neg HL.out, HR1.out]
        refine ⟨u4, ps, rfl, HOWN.out, rfl, ?_⟩
        have := HS.out; simp; omega
      · have hlt : k < s.size := by omega
        clear hend
        go_upto_region 6 with fail
        go_cut [6, 7, 8] (fun s6 s7 s8 wx => CutA wr s[k].toNat k s6 s7 s8 wx)
        case first =>
          go_region
          all_goals
            go_wp2_with fail
            go_meet
            case rel => first | exact (cutA_1 _ _ _ _ rfl).drew | exact (cutA_2 _ _ _ _ rfl).drew
        case rest =>
          obtain ⟨b, sv, rfl, rfl, rfl, hbox, hrow, hbr, hbel2, hsz2⟩ := hcut
          have HBOX := Lib.hid hbox
          have HROW := Lib.hid hrow
          have HB2 := Lib.hid hbel2
          clear hbox hrow hbel2
          have hbw : b < wc.heap.size := (Array.getElem?_eq_some_iff.1 HBOX.out).1
          have hd := drop_cons (s := s) rfl hlt
          have hbyte := s[k].toNat_lt
          go_upto_block 2 with fail
          go_cut [7, 8] (fun s7 s8 wx => CutB wr (s.data.toList.length + 1) s.data.toList k b s7 s8 wx)
          case first =>
            by_cases c42 : s[k].toNat = 42
            · have t1 : ((s[k].toNat : Int) == 42) = true := by simp [c42]
              by_cases hr : lastF s.data.toList (k + 1) = 42
              · have t2 : ((lastF s.data.toList (k + 1) : Int) == 42) = true := by simp [hr]
                have HE : Hid (relemF (s.data.toList.length + 1) (s.data.toList.drop k) = some (⟨1, []⟩, 2)) := by
                  rw [hd]; simp [relemF, c42, (head_lastF 42 (by decide)).2 hr, Hid, -List.head?_drop]
                obtain ⟨hlt1, _⟩ := lastF_93 hr (by omega)
                clear hd c42 hr
                go_wp2_with (first | (go_at_call 27; refine (last_any s _ (by omega) (by unfold maxLen; omega) _).mono ?_; rintro e w' ⟨rfl, rfl⟩) | (refine wpList_store_row rfl 52 _ _ rfl _ rfl 52 _ HBOX.out (.agg #[.int .i64 2, .slice none 0 0]) rfl (by kernel_rfl) rfl rfl ?_; intro w2 hw2; have Hw2 := Lib.hid hw2; clear hw2) | (refine wpList_store_row rfl 52 _ _ rfl _ rfl 52 _ Hw2.out.at_ (.agg #[.int .i64 1, .slice none 0 0]) rfl (by kernel_rfl) rfl rfl ?_; intro w3 hw3; have Hw3 := Lib.hid hw3; clear hw3))
                go_meet
                case rel =>
                  have hb1 := (HB2.out.trans (Hw2.out.below hbr)).trans (Hw3.out.below hbr)
                  refine ⟨k + 2, true, by go_num, rfl, hb1, by rw [Hw3.out.size, Hw2.out.size]; omega, ?_⟩
                  rw [HE.out]
                  exact ⟨rfl, rfl, by omega, by have := HS.out; omega, _, Hw3.out.at_, World.ownsRow_nil _ _ _ _⟩
              · have t2 : ((lastF s.data.toList (k + 1) : Int) == 42) = false := by rw [beq_eq_false_iff_ne]; omega
                have HE : Hid (relemF (s.data.toList.length + 1) (s.data.toList.drop k) = some (⟨2, []⟩, 1)) := by
                  have : ¬ (s.data.toList.drop (k + 1)).head? = some 42 := fun h => hr ((head_lastF 42 (by decide)).1 h)
                  rw [hd]; simp [relemF, c42, this, Hid, -List.head?_drop]
                clear hd c42 hr
                go_wp2_with (first | (go_at_call 27; refine (last_any s _ (by omega) (by unfold maxLen; omega) _).mono ?_; rintro e w' ⟨rfl, rfl⟩) | (refine wpList_store_row rfl 52 _ _ rfl _ rfl 52 _ HBOX.out (.agg #[.int .i64 2, .slice none 0 0]) rfl (by kernel_rfl) rfl rfl ?_; intro w2 hw2; have Hw2 := Lib.hid hw2; clear hw2))
                go_meet
                case rel =>
                  refine ⟨k + 1, true, by go_num, rfl, HB2.out.trans (Hw2.out.below hbr), by rw [Hw2.out.size]; omega, ?_⟩
                  rw [HE.out]
                  exact ⟨rfl, rfl, by omega, by have := HS.out; omega, _, Hw2.out.at_, World.ownsRow_nil _ _ _ _⟩
            · have t1 : ((s[k].toNat : Int) == 42) = false := by rw [beq_eq_false_iff_ne]; omega
              by_cases c63 : s[k].toNat = 63
              · have t2 : ((s[k].toNat : Int) == 63) = true := by simp [c63]
                have HE : Hid (relemF (s.data.toList.length + 1) (s.data.toList.drop k) = some (⟨3, []⟩, 1)) := by
                  rw [hd]; simp [relemF, c63, Hid]
                clear hd c42 c63
                go_wp2_with (first | (refine wpList_store_row rfl 52 _ _ rfl _ rfl 52 _ HBOX.out (.agg #[.int .i64 3, .slice none 0 0]) rfl (by kernel_rfl) rfl rfl ?_; intro w2 hw2; have Hw2 := Lib.hid hw2; clear hw2))
                go_meet
                case rel =>
                  refine ⟨k + 1, true, by go_num, rfl, HB2.out.trans (Hw2.out.below hbr), by rw [Hw2.out.size]; omega, ?_⟩
                  rw [HE.out]
                  exact ⟨rfl, rfl, by omega, by have := HS.out; omega, _, Hw2.out.at_, World.ownsRow_nil _ _ _ _⟩
              · have t2 : ((s[k].toNat : Int) == 63) = false := by rw [beq_eq_false_iff_ne]; omega
                by_cases c91 : s[k].toNat = 91
                · have t3 : ((s[k].toNat : Int) == 91) = true := by simp [c91]
                  have HE : Hid (relemF (s.data.toList.length + 1) (s.data.toList.drop k) = match rclsF (s.data.toList.length + 1) (s.data.toList.drop (k + 1)) [] with
                      | none => none
                      | some (its, rest) => if its = [] then none else some (⟨4, its⟩, (s[k] :: s.data.toList.drop (k + 1)).length - rest.length)) := by
                    rw [hd]; simp [relemF, c91, Hid]
                  clear hd c42 c63 c91
                  go_wp2_with fail
                  refine (rclass_any s _ (by omega) h3 (by omega) _).mono ?_
                  rintro e w1 ⟨sv1, nx, ok, rfl, hb1, hsv1, hnx, hm⟩
                  rw [show ((k : Int) + 1).toNat = k + 1 by omega] at hm
                  have HM := Lib.hid hm
                  have HBOX1 : Hid (w1.heap[b]? = some (.cells #[.int .i64 5, sv] 52 (0, 0))) := (hb1.block b hbw).trans HBOX.out
                  have HB3 := Lib.hid (HB2.out.trans (hb1.mono (by omega)))
                  have hsz3 := hb1.size
                  clear hm hb1
                  go_wp2_with (first | (refine wpList_store_row rfl 52 _ _ rfl _ rfl 52 _ HBOX1.out (.agg #[.int .i64 4, sv1]) rfl (by kernel_rfl) rfl (by show (true && (sv1.oneCell' && true)) = true; rw [hsv1]; rfl) ?_; intro w2 hw2; have Hw2 := Lib.hid hw2; clear hw2))
                  go_meet
                  case rel =>
                    refine ⟨nx, ok, rfl, rfl, HB3.out.trans (Hw2.out.below hbr), by rw [Hw2.out.size]; omega, ?_⟩
                    rw [HE.out]
                    have hm := HM.out
                    cases hc : rclsF (s.data.toList.length + 1) (s.data.toList.drop (k + 1)) [] with
                    | none => rw [hc] at hm; exact hm
                    | some x =>
                      obtain ⟨its, rest⟩ := x
                      rw [hc] at hm
                      simp only at hm ⊢
                      by_cases hits : its = []
                      · rw [if_pos hits]; rw [hm.1]; simp [hits]
                      · rw [if_neg hits]
                        obtain rfl : ok = true := by rw [hm.1]; simp [hits]
                        obtain ⟨h1, h2⟩ := hm.2 rfl
                        have hr := rclsF_rest hc
                        have hS := HS.out
                        simp only [List.length_drop, List.length_cons] at hr ⊢
                        exact ⟨trivial, by omega, by omega, by omega, sv1, Hw2.out.at_, ownsRow_base (ownsRow_wrote h2 Hw2.out hbw) (by omega)⟩
                · have t3 : ((s[k].toNat : Int) == 91) = false := by rw [beq_eq_false_iff_ne]; omega
                  by_cases c92 : s[k].toNat = 92
                  · have t4 : ((s[k].toNat : Int) == 92) = true := by simp [c92]
                    obtain ⟨x0, x1, f0, f1⟩ := blk2 HBOX.out
                    have HE : Hid (relemF (s.data.toList.length + 1) (s.data.toList.drop k) = match s.data.toList.drop (k + 1) with | [] => none | d :: _ => some (⟨5, [(d.toNat, d.toNat)]⟩, 2)) := by
                      rw [hd]; simp [relemF, c92, Hid]
                    clear hd c42 c63 c91 c92
                    go_wp2_with (go_at_call 27; refine (last_any s _ (by omega) (by unfold maxLen; omega) _).mono ?_; rintro e w' ⟨rfl, rfl⟩)
                    go_meet
                    case rel =>
                      have hW := wrote_setCell HBOX.out 1 (.slice (some ⟨wc.heap.size, 0, none⟩) 1 1)
                      have hbel : Below wr.heap.size wr (wc.setCell ⟨b, 1, none⟩ (.slice (some ⟨wc.heap.size, 0, none⟩) 1 1)) := HB2.out.trans (hW.below hbr)
                      refine ⟨k + 2, decide ((k : Int) + 1 < s.size), by go_num, rfl, hbel.alloc (by rw [hW.size]; omega) _, by simp; omega, ?_⟩
                      rw [HE.out]
                      by_cases h1 : k + 1 < s.size
                      · have hd1 := drop_cons (s := s) rfl h1
                        have hl1 : lastF s.data.toList (k + 1) = s[k + 1].toNat := by rw [str_at rfl (k + 1) h1]; rfl
                        rw [hd1, hl1]
                        refine ⟨by simp; omega, rfl, by omega, by have := HS.out; omega, .slice (some ⟨wc.heap.size, 0, none⟩) 1 1, (hp_old (by rw [hW.size]; exact hbw)).trans hW.at_, rfl, .inr ⟨wc.heap.size, 1, _, rfl, by omega, hp_new (by simp), Nat.le_refl _, by decide, rfl, rfl⟩⟩
                      · rw [List.drop_of_length_le (by rw [← HS.out]; omega)]
                        simp; omega
                  · have t4 : ((s[k].toNat : Int) == 92) = false := by rw [beq_eq_false_iff_ne]; omega
                    have HE : Hid (relemF (s.data.toList.length + 1) (s.data.toList.drop k) = some (⟨5, [(s[k].toNat, s[k].toNat)]⟩, 1)) := by
                      rw [hd]; simp [relemF, c42, c63, c91, c92, Hid]
                    clear hd c42 c63 c91 c92
                    go_wp2
                    go_meet
                    case rel =>
                      refine ⟨k + 1, true, by go_num, rfl, HB2.out, by omega, ?_⟩
                      rw [HE.out]
                      exact ⟨rfl, rfl, by omega, by have := HS.out; omega, sv, HBOX.out, HROW.out⟩
          case rest =>
            clear hd HBOX HROW HB2 hbw
            obtain ⟨wo, rfl⟩ : ∃ wo : World, wo = wc := ⟨_, rfl⟩
            obtain ⟨nx, ok, rfl, rfl, hbel3, hsz3, hm⟩ := hcut
            have HB3 := Lib.hid hbel3
            clear hbel3
            cases ok with
            | false =>
              have HR1 : Hid (rels s.data.toList = none) := by
                have hne : ¬ s.data.toList.drop k = [] := by rw [drop_cons rfl hlt]; simp
                rw [HR.out, relemsF, if_neg hne]
                cases he : relemF (s.data.toList.length + 1) (s.data.toList.drop k) with
                | none => rfl
                | some x => rw [he] at hm; cases hm.1
              clear hm HR
              go_wp2
              go_ret2
              refine ⟨HBel.out.trans (HB3.out.mono hsz), ?_⟩
              rw [if_neg HL.out, HR1.out]; rfl
            | true =>
              cases he : relemF (s.data.toList.length + 1) (s.data.toList.drop k) with
              | none => rw [he] at hm; cases hm
              | some x =>
                obtain ⟨E, n⟩ := x
                rw [he] at hm
                obtain ⟨_, rfl, hn1, hnl, sv2, hbox, hrow⟩ := hm
                have HR1 : Hid (rels s.data.toList = (relemsF (s.data.toList.length + 1) g (s.data.toList.drop (k + n))).map ((ps.map (·.1) ++ [E]) ++ ·)) := by
                  have hne : ¬ s.data.toList.drop k = [] := by rw [drop_cons rfl hlt]; simp
                  rw [HR.out, relemsF, if_neg hne, he]
                  simp [Option.map_map, Function.comp_def, List.drop_drop, Hid]
                have HBOX := Lib.hid hbox
                have HROW := Lib.hid hrow
                clear hbox hrow he HR
                obtain ⟨ao, cap, hu4⟩ := ownsRow_form HOWN.out.1
                subst hu4
                obtain ⟨ao2, cap2, rfl⟩ := ownsRow_form HROW.out
                go_wp2_with (first | (refine wpList_load_row rfl 52 _ rfl _ rfl 52 _ (0, 0) _ HBOX.out Try.underlying52 rfl (by kernel_rfl) ?_) | (at_builtin; refine wpList_append2 rfl _ _ 37 rfl w.heap.size 52 i0 (.agg #[.int .i64 0, .slice none 0 0]) 2 32 Try.underlying37 HI.out rfl (by decide) _ _ _ rfl ((ownsRow_below HOWN.out.1 (HB3.out.mono (Nat.le_refl _))).alloc _) ⟨wo.heap.size, 0, none⟩ 1 1 [.int .i64 (E.kind : Nat), .slice ao2 E.items.length cap2] rfl rfl (cells_newAt rfl _ 52 (0, 0)) rfl (by unfold maxLen; omega) (by omega) (by simp; omega) ?_; intro v' w2 hown2 hgrow2 hwhere; have HO2 := Lib.hid hown2; have HG2 := Lib.hid hgrow2; have HWH := Lib.hid hwhere; clear hown2 hgrow2 hwhere))
                go_roundg g
                case measure => omega
                case rel =>
                  have hsvlt := HROW.out.lt
                  have holt : ∀ j, (Value.slice ao ps.length cap).ownBlock = some j → w.heap.size ≤ j ∧ j < wr.heap.size := HOWN.out.1.lt
                  have hbel4 : Below wr.heap.size wr (wo.alloc (.cells #[.int .i64 (E.kind : Nat), .slice ao2 E.items.length cap2] 52)) := HB3.out.alloc hsz3 _
                  refine ⟨k + n, ps ++ [(E, .slice ao2 E.items.length cap2)], by go_num, hnl, by simp; omega, by rw [HR1.out]; simp, by have := HF.out; omega, ⟨?_, ?_⟩, ?_, ?_⟩
                  · rw [flatP_snoc, List.length_append]; exact HO2.out
                  · intro p hp
                    rcases List.mem_append.1 hp with hp | hp
                    · obtain ⟨hr, hd⟩ := HOWN.out.2 p hp
                      have hpl := hr.lt
                      refine ⟨(ownsRow_below hr hbel4).kept HG2.out hd, ?_⟩
                      rcases hd with hd | hd
                      · exact .inl hd
                      · right
                        rcases HWH.out with h | h
                        · rw [h]; exact hd
                        · rw [h]
                          intro e
                          have := (hpl _ e).2
                          simp at this; omega
                    · simp at hp
                      subst hp
                      have hne : (Value.slice ao2 E.items.length cap2).ownBlock = none ∨ (Value.slice ao2 E.items.length cap2).ownBlock ≠ (Value.slice ao ps.length cap).ownBlock := by
                        cases h : (Value.slice ao2 E.items.length cap2).ownBlock with
                        | none => exact .inl rfl
                        | some j =>
                          right
                          intro e
                          have h1 := (hsvlt j h).1
                          have h2 := (holt j e.symm).2
                          omega
                      refine ⟨ownsRow_base ((HROW.out.alloc _).kept HG2.out hne) hsz, ?_⟩
                      rcases hne with hne | hne
                      · exact .inl hne
                      · right
                        rcases HWH.out with h | h
                        · rw [h]; exact hne
                        · rw [h]
                          intro e
                          have := (hsvlt _ e).2
                          simp at this; omega
                  · exact (HBel.out.trans (hbel4.mono hsz)).grown HG2.out (by simp; omega) (fun j hj => (holt j hj).1)
                  · have := HG2.out.size; simp at this; omega
end Go.Proofs.Ytnmbabaihfdljaa
