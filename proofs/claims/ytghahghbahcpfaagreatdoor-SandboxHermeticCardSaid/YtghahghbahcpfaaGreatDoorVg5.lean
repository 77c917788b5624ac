/- The walks over both Literals. -/
import Derived.Test.YtghahghbahcpfaaGreatDoorVg4
import Derived.StillTailTactics
namespace Go.Proofs.YtghahghbahcpfaaGreatDoor.G6
open Go.RowKit
open Bs

theorem El.cells_len (e : El) : e.cells.length = 7 := rfl

theorem el_at {w : World} {base : Nat} {v : Value} {L : List El} (h : w.ownsRow base 172 7 v L.length (L.flatMap El.cells)) {k : Nat} (hk : k < L.length) :
    ∃ g cap, v = .slice (some ⟨g, 0, none⟩) L.length cap ∧ base ≤ g ∧ g < w.heap.size ∧
      w.cell? ⟨g, k * 7, none⟩ = some (.int .u64 (wd L[k].set 0 : Nat)) ∧ w.cell? ⟨g, k * 7 + 1, none⟩ = some (.int .u64 (wd L[k].set 1 : Nat)) ∧ w.cell? ⟨g, k * 7 + 2, none⟩ = some (.int .u64 (wd L[k].set 2 : Nat)) ∧ w.cell? ⟨g, k * 7 + 3, none⟩ = some (.int .u64 (wd L[k].set 3 : Nat)) ∧
      w.cell? ⟨g, k * 7 + 4, none⟩ = some (.bool L[k].many) ∧ w.cell? ⟨g, k * 7 + 5, none⟩ = some (.bool L[k].lit) ∧ w.cell? ⟨g, k * 7 + 6, none⟩ = some (.int .u8 (L[k].ch : Nat)) := by
  obtain ⟨g, cap, h1, h2, h3, h4, h5⟩ := ownsRow_at (f := El.cells) h El.cells_len (by decide) hk
  exact ⟨g, cap, h1, h2, h3, h5 0 _ rfl, h5 1 _ rfl, h5 2 _ rfl, h5 3 _ rfl, h5 4 _ rfl, h5 5 _ rfl, h5 6 _ rfl⟩

end Go.Proofs.YtghahghbahcpfaaGreatDoor.G6
/- The walk over the reference's Literal. -/
namespace Go.Proofs.YtghahghbahcpfaaGreatDoor.G6
open Go.RowKit
open Bs

/-- an element of one byte has its byte -/
def RE.ok (e : RE) : Prop := (∀ p ∈ e.items, p.1 < 256 ∧ p.2 < 256) ∧ (e.kind = 5 → ∃ c : Nat, c < 256 ∧ e.items = [(c, c)])

end Go.Proofs.YtghahghbahcpfaaGreatDoor.G6
/- The walks over package glob's Match: the closure skip. -/
namespace Go.Proofs.YtghahghbahcpfaaGreatDoor.G6
open Go.RowKit
open Bs

abbrev absE (L : List El) : List AE := L.map El.abs

theorem absE_getD {L : List El} {k : Nat} (hk : k < L.length) : (absE L).getD k (false, fun _ => false) = L[k].abs := by
  simp [absE, List.getD, hk]

theorem set_self (o : List Bool) (i : Nat) (h : i < o.length) : o.set i (o.getD i false) = o := by
  apply List.ext_getElem?
  intro j
  rw [List.getElem?_set]
  by_cases hj : i = j
  · subst hj; simp [h, List.getD]
  · simp [hj]

theorem closeTo_succ {L : List El} {on : List Bool} {i : Nat} (hk : i < L.length) (hl : on.length = L.length + 1) :
    closeTo (absE L) on (i + 1) = (closeTo (absE L) on i).set (i + 1) ((closeTo (absE L) on i).getD (i + 1) false || (closeTo (absE L) on i).getD i false && L[i].many) := by
  rw [closeTo, absE_getD hk]
  show (if (closeTo (absE L) on i).getD i false && L[i].many then _ else _) = _
  cases h : ((closeTo (absE L) on i).getD i false && L[i].many) with
  | true => simp
  | false => rw [Bool.or_false, set_self _ _ (by rw [closeTo_length, hl]; omega)]; rfl

def SkipPost (L : List El) (on : List Bool) (base : Nat) (av : Value) (w : World) (e : Ending) (w' : World) : Prop :=
  e = .returned (.tuple #[]) ∧ BRow w' base av (closeTo (absE L) on L.length) ∧ w.grownBy w' av.ownBlock

def SkipRel (L : List El) (on : List Bool) (base : Nat) (av : Value) (w : World) (f : Nat) (t6 : Value) (wr : World) : Prop :=
  ∃ i, t6 = .int .i64 (i : Nat) ∧ i ≤ L.length ∧ f = L.length - i ∧ BRow wr base av (closeTo (absE L) on i) ∧ w.grownBy wr av.ownBlock

theorem grownBy_trans {w w1 w2 : World} {row : Option Nat} (h : w.grownBy w1 row) (h' : w1.grownBy w2 row) : w.grownBy w2 row :=
  ⟨h'.os.trans h.os, h'.tape.trans h.tape, h'.output.trans h.output, Nat.le_trans h.size h'.size, fun k hk hne => (h'.block k (Nat.lt_of_lt_of_le hk h.size) hne).trans (h.block k hk hne)⟩
theorem grownBy_alloc {w w1 : World} {row : Option Nat} (h : w.grownBy w1 row) (o : Obj) : w.grownBy (w1.alloc o) row := grownBy_trans h (World.grownBy_alloc _ _ _)
theorem grownBy_setCell {w w1 : World} {g : Nat} (h : w.grownBy w1 (some g)) (j : Nat) (v : Value) : w.grownBy (w1.setCell ⟨g, j, none⟩ v) (some g) :=
  grownBy_trans h ⟨rfl, rfl, rfl, by simp [World.setCell], fun k _ hne => Below.heap_setCell _ _ _ _ (by rintro rfl; exact hne rfl)⟩
theorem grownBy_drew {w w1 : World} {row : Option Nat} (h : w.grownBy w1 row) : w.grownBy w1.drew row := ⟨h.os, h.tape, h.output, h.size, h.block⟩

set_option maxRecDepth 100000 in
set_option maxHeartbeats 1600000 in
theorem skip_any (L : List El) (on : List Bool) (bl ba baseL base : Nat) (lv av : Value) (hL : L.length ≤ 4096) (hon : on.length = L.length + 1) (w : World)
    (hbl : w.heap[bl]? = some (.cells #[lv] 164 (0, 0))) (hba : w.heap[ba]? = some (.cells #[av] 168 (0, 0))) (hown : w.ownsRow baseL 172 7 lv L.length (L.flatMap El.cells)) (hrow : BRow w base av on)
    (h1 : av.ownBlock ≠ some bl) (h2 : av.ownBlock ≠ some ba) (h3 : lv.ownBlock = none ∨ lv.ownBlock ≠ av.ownBlock) :
    Calls Tryz.prog 111 #[.pointer (some ⟨bl, 0, none⟩), .pointer (some ⟨ba, 0, none⟩)] w (SkipPost L on base av w) := by
  obtain ⟨ao, cap, rfl⟩ := ownsRow_form hown
  obtain ⟨g, c0, hv, hbg, hgw, _, _, _⟩ := BRow_open hrow (by omega)
  rw [hon] at hv
  subst hv
  have hcl : w.cell? ⟨bl, 0, none⟩ = some (.slice ao L.length cap) := by rw [cell_of_blk hbl]; rfl
  have HBA := Lib.hid hba
  have HOWN := Lib.hid hown
  have HROW := Lib.hid hrow
  have HON := Lib.hid hon
  have H2 : Hid (ba ≠ g) := fun e => h2 (by rw [e]; rfl)
  have H3 := Lib.hid h3
  clear hbl hba hown hrow h1 h2 h3 hon
  go_enter Tryz.func111, Tryz.ntmps111
  go_wp2_with fail
  go_loopg [6] L.length (SkipRel L on base (.slice (some ⟨g, 0, none⟩) (L.length + 1) c0) w)
  case atStart => exact ⟨0, rfl, Nat.zero_le _, rfl, HROW.out, World.grownBy.refl _ _⟩
  case round =>
    obtain ⟨i, rfl, hi, hf, hr, hgr⟩ := hrel
    have HR := Lib.hid hr
    have HGR := Lib.hid hgr
    have HF := Lib.hid hf
    clear hr hgr hf
    by_cases hend : i = L.length
    · subst hend
      go_wp2
      go_end0
      exact ⟨rfl, HR.out, HGR.out⟩
    · have hlt : i < L.length := by omega
      clear hend
      have hownr : wr.ownsRow baseL 172 7 (.slice ao L.length cap) L.length (L.flatMap El.cells) := HOWN.out.kept HGR.out H3.out
      obtain ⟨ge, ce, hve, _, hge, k0, k1, k2, k3, k4, k5, k6⟩ := el_at hownr hlt
      injection hve with e1 e2 e3
      subst e1
      subst e3
      have hbar : wr.heap[ba]? = some (.cells #[.slice (some ⟨g, 0, none⟩) (L.length + 1) c0] 168 (0, 0)) := by
        rw [HGR.out.block ba (Array.getElem?_eq_some_iff.1 HBA.out).1 (by intro e; injection e with e; exact H2.out e)]; exact HBA.out
      have hca : wr.cell? ⟨ba, 0, none⟩ = some (.slice (some ⟨g, 0, none⟩) (L.length + 1) c0) := by rw [cell_of_blk hbar]; rfl
      have hbaw : ba < wr.heap.size := (Array.getElem?_eq_some_iff.1 hbar).1
      obtain ⟨_, hgw2, hc, hfz, hset⟩ := BRow_lit HR.out (by rw [closeTo_length, HON.out]; omega)
      have hcl := closeTo_length (absE L) on i
      rw [HON.out] at hcl
      have hc0 := hc i (by omega)
      have hc1 := hc (i + 1) (by omega)
      have hf1 := hfz (i + 1)
      have HSET := Lib.hid (fun b => hset (i + 1) b (by omega))
      have HCS := Lib.hid (closeTo_succ hlt HON.out)
      have q1 : (i : Int) < (L.length : Int) + 1 := by omega
      have q2 : (i : Int) + 1 < (L.length : Int) + 1 := by omega
      have q3 : (0 : Int) ≤ (i : Int) + 1 := by omega
      clear hc hfz hset hcl hownr hbar
      generalize (closeTo (absE L) on i).getD (i + 1) false = b1 at *
      generalize (closeTo (absE L) on i).getD i false = b0 at *
      generalize hE : L[i] = E at *
      cases b1 with
      | true =>
        go_wp2_with fail
        go_region
        go_wp2
        go_roundg (L.length - (i + 1))
        case measure => have := HF.out; omega
        case rel =>
          refine ⟨i + 1, by go_num, by omega, rfl, ?_, grownBy_drew (grownBy_alloc (grownBy_setCell HGR.out _ _) _)⟩
          rw [HCS.out]
          exact World.ownsRow.alloc (HSET.out true) _
      | false =>
        cases b0 with
        | true =>
          go_wp2_with fail
          go_region
          go_wp2
          go_roundg (L.length - (i + 1))
          case measure => have := HF.out; omega
          case rel =>
            refine ⟨i + 1, by go_num, by omega, rfl, ?_, grownBy_drew (grownBy_alloc (grownBy_setCell HGR.out _ _) _)⟩
            rw [HCS.out]
            exact World.ownsRow.alloc (HSET.out E.many) _
        | false =>
          go_wp2_with fail
          go_region
          go_wp2
          go_roundg (L.length - (i + 1))
          case measure => have := HF.out; omega
          case rel =>
            refine ⟨i + 1, by go_num, by omega, rfl, ?_, grownBy_drew (grownBy_alloc (grownBy_setCell HGR.out _ _) _)⟩
            rw [HCS.out]
            exact World.ownsRow.alloc (HSET.out false) _
end Go.Proofs.YtghahghbahcpfaaGreatDoor.G6
/- The walk over package glob's Match. -/
namespace Go.Proofs.YtghahghbahcpfaaGreatDoor.G6
open Go.RowKit
open Bs

def gmatchF (p s : List UInt8) : Bool := if 4096 < p.length then false else match els p with | none => false | some L => matchF (absE L) s

/-- what the variables of Match hold: the elements in box bl, the row in box ba -/
def Held (w1 wr : World) (bl ba : Nat) (lv av : Value) (on : List Bool) : Prop :=
  wr.heap[bl]? = some (.cells #[lv] 164 (0, 0)) ∧ wr.heap[ba]? = some (.cells #[av] 168 (0, 0)) ∧ BRow wr w1.heap.size av on ∧ av.ownBlock ≠ some bl ∧ av.ownBlock ≠ some ba ∧ Below w1.heap.size w1 wr ∧ w1.heap.size ≤ wr.heap.size

theorem Held.below {w1 wr w2 : World} {bl ba : Nat} {lv av : Value} {on : List Bool} (h : Held w1 wr bl ba lv av on) (hb : Below wr.heap.size wr w2) : Held w1 w2 bl ba lv av on := by
  obtain ⟨h1, h2, h3, h4, h5, h6, h7⟩ := h
  have l1 := (Array.getElem?_eq_some_iff.1 h1).1
  have l2 := (Array.getElem?_eq_some_iff.1 h2).1
  exact ⟨(hb.block _ l1).trans h1, (hb.block _ l2).trans h2, BRow_below h3 hb, h4, h5, h6.trans (hb.mono h7), Nat.le_trans h7 hb.size⟩

theorem skip_held (L : List El) (on : List Bool) (bl ba baseL : Nat) (lv av : Value) (hL : L.length ≤ 4096) (hon : on.length = L.length + 1) (w1 w : World) (hown : w1.ownsRow baseL 172 7 lv L.length (L.flatMap El.cells))
    (h : Held w1 w bl ba lv av on) :
    Calls Tryz.prog 111 #[.pointer (some ⟨bl, 0, none⟩), .pointer (some ⟨ba, 0, none⟩)] w fun e w' => e = .returned (.tuple #[]) ∧ Held w1 w' bl ba lv av (closeTo (absE L) on L.length) := by
  obtain ⟨h1, h2, h3, h4, h5, h6, h7⟩ := h
  have l1 := (Array.getElem?_eq_some_iff.1 h1).1
  have l2 := (Array.getElem?_eq_some_iff.1 h2).1
  refine (skip_any L on bl ba baseL w1.heap.size lv av hL hon w h1 h2 (ownsRow_below hown h6) h3 h4 h5 ?_).mono ?_
  · cases hv : lv.ownBlock with
    | none => exact .inl rfl
    | some k =>
      right
      intro e
      have := (hown.lt k hv).2
      have := (h3.lt k e.symm).1
      omega
  · rintro e w' ⟨he, hr, hg⟩
    exact ⟨he, (hg.block _ l1 (fun e => h4 e.symm)).trans h1, (hg.block _ l2 (fun e => h5 e.symm)).trans h2, hr, h4, h5, h6.grown hg h7 (fun k hk => (h3.lt k hk).1), Nat.le_trans h7 hg.size⟩

def GStepRel (A : List AE) (on : List Bool) (c : Nat) (nv : Value) (wi : World) (f : Nat) (t40 : Value) (wr : World) : Prop :=
  ∃ j, t40 = .int .i64 (j : Nat) ∧ j ≤ A.length ∧ f = A.length - j ∧ BRow wr wi.heap.size nv (stepTo A on c j) ∧ Below wi.heap.size wi wr ∧ wi.heap.size ≤ wr.heap.size

def MatchRel (w1 : World) (L : List El) (l : List UInt8) (bl ba : Nat) (lv : Value) (f : Nat) (t31 : Value) (wr : World) : Prop :=
  ∃ i av, t31 = .int .i64 (i : Nat) ∧ i ≤ l.length ∧ f = l.length - i ∧ Held w1 wr bl ba lv av (closeTo (absE L) (onAt (absE L) l i) L.length)

set_option maxRecDepth 100000 in
set_option maxHeartbeats 1600000 in
theorem gmatch_any (p s : ByteArray) (hp : p.size ≤ maxLen) (hs : s.size ≤ 1000000) (w : World) :
    Calls Tryz.prog 72 #[.string p, .string s] w fun e w' => e = .returned (.bool (gmatchF p.data.toList s.data.toList)) ∧ Below w.heap.size w w' := by
  obtain ⟨i4, hi4⟩ := Tryz.infoG4'
  have HI4 := Lib.hid hi4
  have HS := Lib.hid (Lib.size_eq s)
  clear hi4
  go_enter Tryz.func72, Tryz.ntmps72
  go_wp2_with fail
  refine (parse_any p hp w).mono ?_
  rintro e w1 ⟨hb, hq⟩
  have HB := Lib.hid hb
  by_cases h : 4096 < p.data.toList.length
  · rw [if_pos h] at hq
    subst hq
    have HF : Hid (gmatchF p.data.toList s.data.toList = false) := by unfold gmatchF; rw [if_pos h]; rfl
    have hw1 := hb.size
    clear h hb
    go_wp2
    go_ret
    exact ⟨by rw [HF.out]; rfl, HB.out.alloc hw1 _⟩
  · rw [if_neg h] at hq
    cases he : els p.data.toList with
    | none =>
      rw [he] at hq
      subst hq
      have HF : Hid (gmatchF p.data.toList s.data.toList = false) := by unfold gmatchF; rw [if_neg h, he]; rfl
      have hw1 := hb.size
      clear h he hb
      go_wp2
      go_ret
      exact ⟨by rw [HF.out]; rfl, HB.out.alloc hw1 _⟩
    | some L =>
      rw [he] at hq
      obtain ⟨v, rfl, hown, hlen⟩ := hq
      have hlen' : L.length ≤ 4096 := by omega
      have HF : Hid (gmatchF p.data.toList s.data.toList = matchF (absE L) s.data.toList) := by unfold gmatchF; rw [if_neg h, he]; rfl
      have hw1 := hb.size
      obtain ⟨ao, cap, rfl⟩ := ownsRow_form hown
      have HOWN := Lib.hid hown
      clear h he hb hown hlen
      go_wp2_with (at_make; refine wpList_make_full _ rfl _ _ 168 rfl (w1.heap.size + 1) 4 i4 (.bool false) 1 Tryz.underlying168 HI4.out.1 HI4.out.2.1 HI4.out.2.2.1 _ _ _ _ (L.length + 1) rfl rfl (by omega) (by omega) (by rw [HI4.out.2.2.2]; omega) (by unfold maxLen; omega) (by simp) ?_; intro w2 hown2 hgrow2; rw [madeBools] at hown2; simp only [World.size_alloc] at hown2 ⊢; have HB2 : Hid (BRow w2 (w1.heap.size + 1) (.slice (some ⟨w1.heap.size + 1, 0, none⟩) (L.length + 1) (L.length + 1)) (List.replicate (L.length + 1) false)) := (show BRow _ _ _ _ from (by unfold BRow; rw [List.length_replicate]; exact hown2)); obtain ⟨_, hg2, hq3, hq4, hq5⟩ := BRow_lit HB2.out (by simp); have hc0 := hq3 0 (by simp); have hf0 := hq4 0; have HST := Lib.hid (hq5 0 true (by simp)); have HG2 := Lib.hid hgrow2; clear hown2 hgrow2 hq3 hq4 hq5; simp at hc0)
      have hheld : Held w1 ((w2.setCell ⟨w1.heap.size + 1, 0, none⟩ (.bool true)).alloc (.cells #[.slice (some ⟨w1.heap.size + 1, 0, none⟩) (L.length + 1) (L.length + 1)] 168)) w1.heap.size w2.heap.size (.slice ao L.length cap) (.slice (some ⟨w1.heap.size + 1, 0, none⟩) (L.length + 1) (L.length + 1)) ((List.replicate (L.length + 1) false).set 0 true) := by
        have hs0 : (w2.setCell ⟨w1.heap.size + 1, 0, none⟩ (.bool true)).heap.size = w2.heap.size := by simp [World.setCell]
        have b1 : Below w1.heap.size w1 w2 := ((Below.refl _ _).alloc (Nat.le_refl _) _).grown HG2.out (by simp) (fun k hk => by cases hk)
        refine ⟨?_, hp_new hs0.symm, ownsRow_base (World.ownsRow.alloc HST.out _) (by omega), ?_, ?_, (b1.setCell (by simp) _).alloc (by rw [hs0]; omega) _, by simp; omega⟩
        · rw [hp_old (by rw [hs0]; omega), Below.heap_setCell _ _ _ _ (by simp), HG2.out.block _ (by simp) (by simp), hp_new rfl]
        · simp [Value.ownBlock]
        · simp [Value.ownBlock]; omega
      have hA : (absE L).length = L.length := by simp [absE]
      have HA := Lib.hid hA
      refine (skip_held L _ _ _ _ _ _ hlen' (by simp) w1 _ HOWN.out hheld).mono ?_
      rintro e w3 ⟨rfl, hh⟩
      have HH : Hid (Held w1 w3 w1.heap.size w2.heap.size (.slice ao L.length cap) (.slice (some ⟨w1.heap.size + 1, 0, none⟩) (L.length + 1) (L.length + 1)) (closeTo (absE L) (onAt (absE L) s.data.toList 0) L.length)) := by rw [onAt, hA]; exact hh
      clear hheld hA hh HST HG2 hf0 hc0
      generalize w2.heap.size = ba at *
      go_wp2_with fail
      go_loopg [31] s.data.toList.length (MatchRel w1 L s.data.toList w1.heap.size ba (.slice ao L.length cap))
      case atStart => exact ⟨0, _, rfl, Nat.zero_le _, rfl, HH.out⟩
      case round =>
        obtain ⟨i, av, rfl, hi, hf, hh⟩ := hrel
        have his : i ≤ s.size := by have := HS.out; omega
        have HH1 := Lib.hid hh
        have HF1 := Lib.hid hf
        have HI := Lib.hid hi
        obtain ⟨x1, x2, x3, x4, x5, x6, x7⟩ := hh
        have hlenO : (closeTo (absE L) (onAt (absE L) s.data.toList i) L.length).length = L.length + 1 := by rw [closeTo_length, onAt_length, HA.out]
        obtain ⟨g0, c0, hv, hg0, hgw, hcs, _, _⟩ := BRow_open x3 (by omega)
        rw [hlenO] at hv hcs
        subst hv
        have cl : wr.cell? ⟨w1.heap.size, 0, none⟩ = some (.slice ao L.length cap) := by rw [cell_of_blk x1]; rfl
        have ca : wr.cell? ⟨ba, 0, none⟩ = some (.slice (some ⟨g0, 0, none⟩) (L.length + 1) c0) := by rw [cell_of_blk x2]; rfl
        have hblw := (Array.getElem?_eq_some_iff.1 x1).1
        have hbaw := (Array.getElem?_eq_some_iff.1 x2).1
        have HBEL := Lib.hid x6
        have HW1 : Hid (w1.heap.size ≤ wr.heap.size) := x7
        have hcn := hcs L.length (by omega)
        clear x1 x2 x3 x4 x5 x6 x7 hcs hf hi hlenO
        by_cases hend : i = s.size
        · have HF2 : Hid (matchF (absE L) s.data.toList = (closeTo (absE L) (onAt (absE L) s.data.toList i) L.length).getD L.length false) := by
            unfold matchF; rw [← HS.out, ← hend, HA.out]; rfl
          have hge : ¬ ((i : Int) < s.size) := by omega
          clear hend
          generalize (closeTo (absE L) (onAt (absE L) s.data.toList i) L.length).getD L.length false = bb at *
          go_wp2
          go_ret
          exact ⟨by rw [HF.out, HF2.out]; rfl, HB.out.trans (HBEL.out.mono (by omega))⟩
        · have hlt : i < s.size := by omega
          have hlt' : (i : Int) < s.size := by omega
          have hbs := s[i].toNat_lt
          clear hend hcn
          go_wp2_with (at_make; refine wpList_make_full _ rfl _ _ 168 rfl wr.heap.size 4 i4 (.bool false) 1 Tryz.underlying168 HI4.out.1 HI4.out.2.1 HI4.out.2.2.1 _ _ _ _ (L.length + 1) rfl rfl (by omega) (by omega) (by rw [HI4.out.2.2.2]; omega) (by unfold maxLen; omega) (Nat.le_refl _) ?_; intro w4 hown4 hgrow4; rw [madeBools] at hown4; have HB4 : Hid (BRow w4 wr.heap.size (.slice (some ⟨wr.heap.size, 0, none⟩) (L.length + 1) (L.length + 1)) (List.replicate (L.length + 1) false)) := (show BRow _ _ _ _ from (by unfold BRow; rw [List.length_replicate]; exact hown4)); have HG4 : Hid (Below wr.heap.size wr w4) := (Below.refl _ _).grown hgrow4 (Nat.le_refl _) (fun k hk => by cases hk); have hw4 : wr.heap.size ≤ w4.heap.size := hgrow4.size; clear hown4 hgrow4; have cl4 : w4.cell? ⟨w1.heap.size, 0, none⟩ = some (.slice ao L.length cap) := (HG4.out.cell (p := ⟨w1.heap.size, 0, none⟩) hblw).trans cl)
          obtain ⟨wi, rfl⟩ : ∃ wi : World, wi = wr := ⟨_, rfl⟩
          obtain ⟨go, rfl⟩ : ∃ go : Nat, go = gk := ⟨_, rfl⟩
          go_loopg [40] L.length (GStepRel (absE L) (closeTo (absE L) (onAt (absE L) s.data.toList i) L.length) s[i].toNat (.slice (some ⟨wi.heap.size, 0, none⟩) (L.length + 1) (L.length + 1)) wi)
          case atStart => exact ⟨0, rfl, Nat.zero_le _, by rw [HA.out]; rfl, by rw [stepTo, HA.out]; exact HB4.out, HG4.out, hw4⟩
          case round =>
            obtain ⟨j, rfl, hj, hf3, hr3, hb3, hz3⟩ := hrel
            have hj : j ≤ L.length := by rw [← HA.out]; exact hj
            have HR3 := Lib.hid hr3
            have HB3 := Lib.hid hb3
            have HF3 := Lib.hid hf3
            have hlen3 : (stepTo (absE L) (closeTo (absE L) (onAt (absE L) s.data.toList i) L.length) s[i].toNat j).length = L.length + 1 := by rw [stepTo_length, HA.out]
            have HLEN3 := Lib.hid hlen3
            have hh3 := HH1.out.below hb3
            have HH3 := Lib.hid hh3
            obtain ⟨y1, y2, y3, y4, y5, y6, y7⟩ := hh3
            have cl3 : wr.cell? ⟨w1.heap.size, 0, none⟩ = some (.slice ao L.length cap) := by rw [cell_of_blk y1]; rfl
            have ca3 : wr.cell? ⟨ba, 0, none⟩ = some (.slice (some ⟨g0, 0, none⟩) (L.length + 1) c0) := by rw [cell_of_blk y2]; rfl
            have hba3 := (Array.getElem?_eq_some_iff.1 y2).1
            clear hr3 hb3 hf3 hlen3 y1 y2 y4 y5 y7
            by_cases hend : j = L.length
            · subst hend
              have fa3 : wr.frozen? ⟨ba, 0, none⟩ = false := free_of_blk HH3.out.2.1 0
              have HST4 : Hid (stepTo (absE L) (closeTo (absE L) (onAt (absE L) s.data.toList i) L.length) s[i].toNat L.length = onAt (absE L) s.data.toList (i + 1)) := by
                rw [onAt, HA.out, ← str_at rfl i hlt]; rfl
              go_wp2_with fail
              have hW := wrote_setCell HH3.out.2.1 0 (.slice (some ⟨wi.heap.size, 0, none⟩) (L.length + 1) (L.length + 1))
              have hheld : Held w1 (wr.setCell ⟨ba, 0, none⟩ (.slice (some ⟨wi.heap.size, 0, none⟩) (L.length + 1) (L.length + 1))) w1.heap.size ba (.slice ao L.length cap) (.slice (some ⟨wi.heap.size, 0, none⟩) (L.length + 1) (L.length + 1)) (onAt (absE L) s.data.toList (i + 1)) := by
                have hw1i : w1.heap.size ≤ wi.heap.size := HW1.out
                refine ⟨(hW.block _ (by omega)).trans HH3.out.1, hW.at_, ?_, ?_, ?_, HH3.out.2.2.2.2.2.1.trans (hW.below (by omega)), by rw [hW.size]; exact HH3.out.2.2.2.2.2.2⟩
                · rw [← HST4.out]
                  exact ownsRow_base (ownsRow_wrote HR3.out hW hbaw) hw1i
                · simp [Value.ownBlock]; omega
                · simp [Value.ownBlock]; omega
              refine (skip_held L _ _ _ _ _ _ hlen' (by rw [onAt_length, HA.out]) w1 _ HOWN.out hheld).mono ?_
              rintro e w7 ⟨rfl, hh7⟩
              have HH7 := Lib.hid hh7
              clear hh7 hheld hW fa3 ca3 cl3
              go_wp2
              go_roundg (s.data.toList.length - (i + 1))
              case measure => have := HF1.out; have := HS.out; omega
              case rel => exact ⟨i + 1, _, by go_num, by have := HS.out; omega, rfl, HH7.out⟩
            · have hjlt : j < L.length := by omega
              have hownr := ownsRow_below HOWN.out y6
              obtain ⟨ge, ce, hve, _, hge, k0, k1, k2, k3, k4, k5, k6⟩ := el_at hownr hjlt
              injection hve with e1 e2 e3
              subst e1
              subst e3
              obtain ⟨_, hgw3, hc3, _, _⟩ := BRow_lit y3 (by rw [closeTo_length, onAt_length]; omega)
              have hcj := hc3 j (by rw [closeTo_length, onAt_length, HA.out]; omega)
              have hSt : stepTo (absE L) (closeTo (absE L) (onAt (absE L) s.data.toList i) L.length) s[i].toNat (j + 1) = if (closeTo (absE L) (onAt (absE L) s.data.toList i) L.length).getD j false && L[j].set.testBit s[i].toNat then (if L[j].many then (stepTo (absE L) (closeTo (absE L) (onAt (absE L) s.data.toList i) L.length) s[i].toNat j).set j true else (stepTo (absE L) (closeTo (absE L) (onAt (absE L) s.data.toList i) L.length) s[i].toNat j).set (j + 1) true) else (stepTo (absE L) (closeTo (absE L) (onAt (absE L) s.data.toList i) L.length) s[i].toNat j) := by
                rw [stepTo, absE_getD hjlt]; rfl
              have HST3 := Lib.hid hSt
              have q1 : (j : Int) < (L.length : Int) + 1 := by omega
              clear hend hownr y3 y6 hc3 hSt
              cases hon : (closeTo (absE L) (onAt (absE L) s.data.toList i) L.length).getD j false with
              | false =>
                rw [hon] at hcj
                have HCL1 : Hid (stepTo (absE L) (closeTo (absE L) (onAt (absE L) s.data.toList i) L.length) s[i].toNat (j + 1) = (stepTo (absE L) (closeTo (absE L) (onAt (absE L) s.data.toList i) L.length) s[i].toNat j)) := by rw [HST3.out, hon]; rfl
                clear hon
                go_wp2_with fail
                go_region
                go_wp2
                go_roundg (L.length - (j + 1))
                case measure => have := HF3.out; have := HA.out; omega
                case rel => exact ⟨j + 1, by go_num, by rw [HA.out]; omega, by rw [HA.out], by rw [HCL1.out]; exact World.ownsRow.alloc HR3.out _, (HB3.out.alloc hz3 _).drew, by simp; omega⟩
              | true =>
                rw [hon] at hcj
                have HON := Lib.hid hon
                clear hon
                go_wp2_with fail
                refine (show ∀ w5, w5 = wr.alloc (.cells (L[j].cells).toArray 172 (0, 0)) → Code.wp Tryz.prog _ _ _ w5 from ?_) _ rfl
                intro w5 hw5
                have hb5 : Below wr.heap.size wr w5 := by rw [hw5]; exact (Below.refl _ _).alloc (Nat.le_refl _) _
                have hbx : w5.heap[wr.heap.size]? = some (.cells (L[j].cells).toArray 172 (0, 0)) := by rw [hw5]; exact hp_new rfl
                have z0 : w5.cell? ⟨wr.heap.size, 0, none⟩ = some (.int .u64 (wd L[j].set 0 : Nat)) := by rw [cell_of_blk hbx]; rfl
                have z1 : w5.cell? ⟨wr.heap.size, 1, none⟩ = some (.int .u64 (wd L[j].set 1 : Nat)) := by rw [cell_of_blk hbx]; rfl
                have z2 : w5.cell? ⟨wr.heap.size, 2, none⟩ = some (.int .u64 (wd L[j].set 2 : Nat)) := by rw [cell_of_blk hbx]; rfl
                have z3 : w5.cell? ⟨wr.heap.size, 3, none⟩ = some (.int .u64 (wd L[j].set 3 : Nat)) := by rw [cell_of_blk hbx]; rfl
                have z4 : w5.cell? ⟨wr.heap.size, 4, none⟩ = some (.bool L[j].many) := by rw [cell_of_blk hbx]; rfl
                have ca5 : w5.cell? ⟨ba, 0, none⟩ = some (.slice (some ⟨g0, 0, none⟩) (L.length + 1) c0) := (hb5.cell (p := ⟨ba, 0, none⟩) hba3).trans ca3
                have hcj5 : w5.cell? ⟨g0, j, none⟩ = some (.bool true) := (hb5.cell (p := ⟨g0, j, none⟩) hgw3).trans hcj
                have HB5 := Lib.hid (HB3.out.trans (hb5.mono hz3))
                have HR5 := Lib.hid (BRow_below HR3.out hb5)
                have HBX := Lib.hid hbx
                have hz5 := hb5.size
                have hz6 : wr.heap.size < w5.heap.size := (Array.getElem?_eq_some_iff.1 hbx).1
                clear hw5 hb5 hbx ca3 hcj k0 k1 k2 k3 k4 k5 k6 cl3
                go_still_tail 11, (by kernel_rfl)
                change wpList _ _ _ _ _ w5.drew
                go_wp2_with fail
                refine (has_any L[j].set s[i].toNat (by omega) (by omega) _).mono ?_
                rintro e w6 ⟨rfl, hb⟩
                have hb : Below w5.heap.size w5 w6 := (Below.refl _ _).drew.trans hb
                have HB6 := Lib.hid (HB5.out.trans (hb.mono (by omega)))
                have HR6 := Lib.hid (BRow_below HR5.out hb)
                have z6 : w6.cell? ⟨wr.heap.size, 4, none⟩ = some (.bool L[j].many) := (hb.cell (p := ⟨wr.heap.size, 4, none⟩) hz6).trans z4
                have hz7 := hb.size
                clear hb z0 z1 z2 z3 z4 ca5 hcj5
                rw [Int.toNat_natCast]
                cases hfi : L[j].set.testBit s[i].toNat with
                | false =>
                  have HCL1 : Hid (stepTo (absE L) (closeTo (absE L) (onAt (absE L) s.data.toList i) L.length) s[i].toNat (j + 1) = (stepTo (absE L) (closeTo (absE L) (onAt (absE L) s.data.toList i) L.length) s[i].toNat j)) := by rw [HST3.out, HON.out, hfi]; rfl
                  clear hfi
                  go_wp2
                  go_roundg (L.length - (j + 1))
                  case measure => have := HF3.out; have := HA.out; omega
                  case rel => exact ⟨j + 1, by go_num, by rw [HA.out]; omega, by rw [HA.out], by rw [HCL1.out]; exact HR6.out, HB6.out, by omega⟩
                | true =>
                  have HCL1 : Hid (stepTo (absE L) (closeTo (absE L) (onAt (absE L) s.data.toList i) L.length) s[i].toNat (j + 1) = if L[j].many then (stepTo (absE L) (closeTo (absE L) (onAt (absE L) s.data.toList i) L.length) s[i].toNat j).set j true else (stepTo (absE L) (closeTo (absE L) (onAt (absE L) s.data.toList i) L.length) s[i].toNat j).set (j + 1) true) := by rw [HST3.out, HON.out, hfi]; rfl
                  obtain ⟨hg2, hg3, hc2, hf2, hset2⟩ := BRow_lit HR6.out (by rw [HLEN3.out]; omega)
                  clear hfi
                  cases hm : L[j].many with
                  | true =>
                    rw [hm] at z6
                    have HCL2 : Hid (stepTo (absE L) (closeTo (absE L) (onAt (absE L) s.data.toList i) L.length) s[i].toNat (j + 1) = (stepTo (absE L) (closeTo (absE L) (onAt (absE L) s.data.toList i) L.length) s[i].toNat j).set j true) := by rw [HCL1.out, hm]; rfl
                    have hc2 := hc2 j (by rw [HLEN3.out]; omega)
                    have hf2 := hf2 j
                    have HSET2 := Lib.hid (hset2 j true (by rw [HLEN3.out]; omega))
                    clear hm hset2
                    go_wp2
                    go_roundg (L.length - (j + 1))
                    case measure => have := HF3.out; have := HA.out; omega
                    case rel => exact ⟨j + 1, by go_num, by rw [HA.out]; omega, by rw [HA.out], by rw [HCL2.out]; exact HSET2.out, HB6.out.setCell (by omega) _, by simp; omega⟩
                  | false =>
                    rw [hm] at z6
                    have HCL2 : Hid (stepTo (absE L) (closeTo (absE L) (onAt (absE L) s.data.toList i) L.length) s[i].toNat (j + 1) = (stepTo (absE L) (closeTo (absE L) (onAt (absE L) s.data.toList i) L.length) s[i].toNat j).set (j + 1) true) := by rw [HCL1.out, hm]; rfl
                    have hc2 := hc2 (j + 1) (by rw [HLEN3.out]; omega)
                    have hf2 := hf2 (j + 1)
                    have HSET2 := Lib.hid (hset2 (j + 1) true (by rw [HLEN3.out]; omega))
                    clear hm hset2
                    go_wp2
                    go_roundg (L.length - (j + 1))
                    case measure => have := HF3.out; have := HA.out; omega
                    case rel => exact ⟨j + 1, by go_num, by rw [HA.out]; omega, by rw [HA.out], by rw [HCL2.out]; exact HSET2.out, HB6.out.setCell (by omega) _, by simp; omega⟩
end Go.Proofs.YtghahghbahcpfaaGreatDoor.G6
/- The walk over package glob's Any. -/
namespace Go.Proofs.YtghahghbahcpfaaGreatDoor.G6
open Go.RowKit
open Bs

def exceptF (p : List UInt8) : Bool := decide (p.head? = some 33)
def bodyF (p : List UInt8) : List UInt8 := if exceptF p then p.drop 1 else p

def ganyTo (ss : List ByteArray) (s : List UInt8) : Nat → Bool
  | 0 => false
  | k + 1 => if gmatchF (bodyF (ss.getD k ByteArray.empty).data.toList) s then !(exceptF (ss.getD k ByteArray.empty).data.toList) else ganyTo ss s k

def GAnyRel (w : World) (ss : List ByteArray) (s : List UInt8) (f : Nat) (t5 : Value) (wr : World) : Prop :=
  ∃ k, t5 = .int .i64 ((k : Nat) - 1 : Int) ∧ k ≤ ss.length ∧ f = k ∧ ganyTo ss s ss.length = ganyTo ss s k ∧ Below w.heap.size w wr

set_option maxRecDepth 100000 in
set_option maxHeartbeats 1600000 in
theorem gany_any (ss : List ByteArray) (v : Value) (s : ByteArray) (hs : s.size ≤ 1000000) (hn : ss.length ≤ 1000000) (hss : ∀ p ∈ ss, p.size ≤ 1000000) (w : World) (hat : StrsAt w v ss) :
    Calls Tryz.prog 52 #[v, .string s] w fun e w' => e = .returned (.bool (ganyTo ss s.data.toList ss.length)) ∧ Below w.heap.size w w' := by
  obtain ⟨ao, cap, rfl⟩ := hat.form
  have HAT := Lib.hid hat
  have HSS := Lib.hid hss
  clear hat hss
  go_enter Tryz.func52, Tryz.ntmps52
  go_wp2_with fail
  go_loopg [5] ss.length (GAnyRel w ss s.data.toList)
  case atStart => exact ⟨ss.length, rfl, Nat.le_refl _, rfl, rfl, Below.refl _ _⟩
  case round =>
    obtain ⟨k, rfl, hk, rfl, hR, hbel⟩ := hrel
    have HBel := Lib.hid hbel
    have HR := Lib.hid hR
    clear hbel hR
    cases gk with
    | zero =>
      go_wp2
      go_ret
      exact ⟨by rw [HR.out]; rfl, HBel.out⟩
    | succ i =>
      have hlt : i < ss.length := by omega
      obtain ⟨b, off, rfl, hc⟩ := (HAT.out.below HBel.out).at_ hlt
      have hi0 : (((i + 1 : Nat) : Int) - 1) = (i : Int) := by omega
      rw [hi0]
      clear hi0
      have hpsz : (ss.getD i ByteArray.empty).size ≤ 1000000 := HSS.out _ (by simp [List.getD, hlt])
      have hsn : ganyTo ss s.data.toList (i + 1) = if gmatchF (bodyF (ss.getD i ByteArray.empty).data.toList) s.data.toList then !(exceptF (ss.getD i ByteArray.empty).data.toList) else ganyTo ss s.data.toList i := rfl
      have HSN := Lib.hid (HR.out.trans hsn)
      clear hsn
      generalize ss.getD i ByteArray.empty = p at *
      have hpm : p.size ≤ maxLen := by unfold maxLen; omega
      by_cases h33 : ∃ h : 0 < p.size, p[0].toNat = 33
      · obtain ⟨hp0, h33⟩ := h33
        have hne : p.toList.isEmpty = false := by
          rw [Lib.toList_data]
          cases hl : p.data.toList with
          | nil => have := Lib.size_eq p; rw [hl, List.length_nil] at this; omega
          | cons c r => rfl
        have t1 : ((p[0].toNat : Int) == 33) = true := by simp [h33]
        have hh : exceptF p.data.toList = true := by
          have := drop_cons (s := p) rfl hp0
          rw [List.drop_zero] at this
          unfold exceptF
          rw [this, u8_of_toNat h33]; rfl
        have HSN1 : Hid (ganyTo ss s.data.toList ss.length = if gmatchF (p.data.toList.drop 1) s.data.toList then false else ganyTo ss s.data.toList i) := by
          rw [HSN.out, bodyF, hh]; rfl
        have hp1 : 1 ≤ p.size := hp0
        clear hh h33 HSN
        go_wp2_with fail
        refine (gmatch_any _ s (by simp; unfold maxLen; omega) hs _).mono ?_
        rintro e w1 ⟨rfl, hb⟩
        rw [Lib.extract_to_end]
        have HB1 := Lib.hid (HBel.out.trans (hb.mono HBel.out.size))
        clear hb
        cases hm : gmatchF (p.data.toList.drop 1) s.data.toList with
        | true =>
          have HR1 : Hid (ganyTo ss s.data.toList ss.length = false) := by rw [HSN1.out, hm]; rfl
          clear hm
          go_wp2
          go_ret
          exact ⟨by rw [HR1.out]; rfl, HB1.out⟩
        | false =>
          have HR1 : Hid (ganyTo ss s.data.toList ss.length = ganyTo ss s.data.toList i) := by rw [HSN1.out, hm]; rfl
          clear hm
          go_wp2
          go_roundg i
          case measure => omega
          case rel => exact ⟨i, rfl, by omega, rfl, HR1.out, HB1.out⟩
      · have hh : exceptF p.data.toList = false := by
          unfold exceptF
          rw [decide_eq_false_iff_not]
          intro h
          by_cases hp0 : 0 < p.size
          · have := drop_cons (s := p) rfl hp0
            rw [List.drop_zero] at this
            rw [this] at h
            simp at h
            exact h33 ⟨hp0, by rw [h]; rfl⟩
          · have : p.data.toList = [] := List.eq_nil_of_length_eq_zero (by rw [← Lib.size_eq]; omega)
            rw [this] at h; cases h
        have hcs : p.toList.isEmpty = true ∨ (p.toList.isEmpty = false ∧ ∃ h : 0 < p.size, ((p[0].toNat : Int) == 33) = false) := by
          by_cases hp0 : 0 < p.size
          · right
            refine ⟨?_, hp0, by rw [beq_eq_false_iff_ne]; intro h; exact h33 ⟨hp0, by omega⟩⟩
            rw [Lib.toList_data]
            cases hl : p.data.toList with
            | nil => have := Lib.size_eq p; rw [hl, List.length_nil] at this; omega
            | cons c r => rfl
          · left
            rw [Lib.toList_data, List.eq_nil_of_length_eq_zero (l := p.data.toList) (by rw [← Lib.size_eq]; omega)]; rfl
        have HSN1 : Hid (ganyTo ss s.data.toList ss.length = if gmatchF p.data.toList s.data.toList then true else ganyTo ss s.data.toList i) := by
          rw [HSN.out, bodyF, hh]; rfl
        clear hh h33 HSN
        rcases hcs with h | ⟨h, h', h''⟩
        all_goals
          go_wp2_with fail
          refine (gmatch_any p s hpm hs _).mono ?_
          rintro e w1 ⟨rfl, hb⟩
          have HB1 := Lib.hid (HBel.out.trans (hb.mono HBel.out.size))
          clear hb
          cases hm : gmatchF p.data.toList s.data.toList with
          | true =>
            have HR1 : Hid (ganyTo ss s.data.toList ss.length = true) := by rw [HSN1.out, hm]; rfl
            clear hm
            go_wp2
            go_ret
            exact ⟨by rw [HR1.out]; rfl, HB1.out⟩
          | false =>
            have HR1 : Hid (ganyTo ss s.data.toList ss.length = ganyTo ss s.data.toList i) := by rw [HSN1.out, hm]; rfl
            clear hm
            go_wp2
            go_roundg i
            case measure => omega
            case rel => exact ⟨i, rfl, by omega, rfl, HR1.out, HB1.out⟩
end Go.Proofs.YtghahghbahcpfaaGreatDoor.G6
