/- The walk over report.Show. -/
import Derived.Test.YtngbjnjkcniabaaGreatDoorRp8
import Derived.Test.YtngbjnjkcniabaaGreatDoorRp4
import Derived.Lib.ItoaLen
import Derived.Lib.AppendIntMem
import Derived.Shelf.Strings.BuilderK
import Derived.Deep.RegionHeld3
namespace Go.Proofs.YtngbjnjkcniabaaGreatDoor
open Go.RowKit

def Pow10At (w : World) : Prop := Lib.TabBelow Tryz.prog w.heap.size w "internal/strconv.uint64pow10" .u64 Lib.pow10Tab
theorem Pow10At.below {w w1 : World} (h : Pow10At w) (hb : Below w.heap.size w w1) : Pow10At w1 := fun w' hb' => h w' (hb.trans (hb'.mono hb.size))

def wordV (st : Int) : List UInt8 := if st = 1 then [112, 97, 115, 115] else if st = 2 then [102, 97, 105, 108] else if st = 3 then [115, 107, 105, 112] else []
def lineV (q : Qu) : List UInt8 := wordV q.since ++ ([32] ++ (q.name.data.toList ++ ([32] ++ (Lib.itoa q.til ++ [10]))))
def linesV (rs : List Qu) : List UInt8 := rs.flatMap lineV
def showV (rs : List Qu) : List UInt8 := if validR rs = 0 then linesV rs else []

theorem vTo_all : ∀ (acc rs : List Qu), vTo acc rs = 0 → ∀ q ∈ rs, ¬ badR q ∧ ¬ rangeR q
  | _, [], _, _, h => by cases h
  | acc, q :: rs, h, x, hx => by
    rw [vTo] at h
    by_cases h1 : badR q
    · rw [if_pos h1] at h; cases h
    · by_cases h2 : rangeR q
      · rw [if_neg h1, if_pos h2] at h; cases h
      · rw [if_neg h1, if_neg h2] at h
        split at h
        · cases h
        · rcases List.mem_cons.1 hx with rfl | hx
          · exact ⟨h1, h2⟩
          · exact vTo_all _ rs h x hx
theorem validR_all {rs : List Qu} (h : validR rs = 0) : rs.length ≤ 4096 ∧ vTo [] rs = 0 := by
  unfold validR at h
  by_cases h1 : 4096 < rs.length
  · rw [if_pos h1] at h; cases h
  · rw [if_neg h1] at h; exact ⟨by omega, h⟩
theorem bad_not {q : Qu} (h : ¬ badR q) : partsF q.name.data.toList = 0 ∧ 1 ≤ q.since ∧ q.since ≤ 3 := by
  unfold badR at h
  refine ⟨Classical.byContradiction fun h1 => h (.inl h1), ?_, ?_⟩
  · exact Int.not_lt.1 fun h1 => h (.inr (.inl h1))
  · exact Int.not_lt.1 fun h1 => h (.inr (.inr h1))
theorem range_not {q : Qu} (h : ¬ rangeR q) : 0 ≤ q.til ∧ q.til ≤ 1125899906842624 := by
  unfold rangeR at h
  exact ⟨Int.not_lt.1 fun h1 => h (.inl h1), Int.not_lt.1 fun h1 => h (.inr h1)⟩
theorem parts_len {l : List UInt8} (h : partsF l = 0) : l.length ≤ 512 := by
  unfold partsF at h
  by_cases h1 : 512 < l.length
  · rw [if_pos h1] at h; cases h
  · omega
theorem wordV_len (st : Int) : (wordV st).length ≤ 4 := by unfold wordV; (repeat' split) <;> decide
theorem lineV_len {q : Qu} (h1 : ¬ badR q) (h2 : ¬ rangeR q) : (lineV q).length ≤ 600 := by
  have a := wordV_len q.since
  have b := parts_len (bad_not h1).1
  have c := range_not h2
  have d := Lib.itoa_length_le q.til (by omega) (by omega)
  unfold lineV
  simp only [List.length_append, List.length_cons, List.length_nil]
  omega
theorem linesV_len : ∀ (rs : List Qu), (∀ q ∈ rs, ¬ badR q ∧ ¬ rangeR q) → (linesV rs).length ≤ 600 * rs.length
  | [], _ => Nat.zero_le _
  | q :: rs, h => by
    have a := lineV_len (h q (List.mem_cons_self ..)).1 (h q (List.mem_cons_self ..)).2
    have b := linesV_len rs fun x hx => h x (List.mem_cons_of_mem _ hx)
    unfold linesV at b ⊢
    rw [List.flatMap_cons, List.length_append, List.length_cons]
    omega

theorem buF_below {T e : TypeId} {B b : Nat} {bs : List Value} {W W' : World} (h : Lib.IsBuilderF T e B b bs W) (hb : Below W.heap.size W W') : Lib.IsBuilderF T e B b bs W' := by
  have one : ∀ {p : Value}, Lib.BuilderAtF T e B b p bs W → Lib.BuilderAtF T e B b p bs W' := fun h => by
    have hlt := h.lt
    obtain ⟨hB, v, hv, hown, hne⟩ := h
    exact ⟨hB, v, (hb.block b hlt).trans hv, hown.kept (row := none) ⟨hb.os, hb.tape, hb.output, hb.size, fun k hk _ => hb.block k hk⟩ (Classical.em _), hne⟩
  exact h.elim (fun x => .inl (one x)) (fun x => .inr (one x))
theorem linesV_take {rs : List Qu} {k : Nat} (hk : k < rs.length) : linesV (rs.take (k + 1)) = linesV (rs.take k) ++ lineV rs[k] := by
  unfold linesV
  rw [List.take_add_one, List.flatMap_append, List.getElem?_eq_getElem hk]
  simp
theorem itoa_small {n : Int} (h0 : 0 ≤ n) (h1 : n ≤ 1125899906842624) : (Lib.itoa n).length ≤ 21 := Lib.itoa_length_le n (by omega) (by omega)

def ShRel (w1 : World) (rs : List Qu) (f : Nat) (t11 : Value) (wr : World) : Prop :=
  ∃ k : Nat, t11 = .int .i64 (k : Nat) ∧ k ≤ rs.length ∧ f = rs.length - k ∧ Lib.IsBuilderF 61 5 w1.heap.size w1.heap.size (Lib.byteCells (linesV (rs.take k))) wr ∧ Below w1.heap.size w1 wr
def ShPost (l : List UInt8) (w : World) (e : Ending) (w' : World) : Prop := ∃ s : ByteArray, e = .returned (.string s) ∧ s.data.toList = l ∧ Below w.heap.size w w'

/-- the three cells of the row that is shown -/
abbrev C3 (b : Nat) (q : Qu) (W : World) : Prop := W.cell? ⟨b, 0, none⟩ = some (.string q.name) ∧ W.cell? ⟨b, 1, none⟩ = some (.int .i64 q.since) ∧ W.cell? ⟨b, 2, none⟩ = some (.int .i64 q.til)
theorem C3.below {b : Nat} {q : Qu} {W W1 : World} (h : C3 b q W) (hl : b < W.heap.size) (hb : Below W.heap.size W W1) : C3 b q W1 :=
  ⟨(hb.cell (p := ⟨b, 0, none⟩) hl).trans h.1, (hb.cell (p := ⟨b, 1, none⟩) hl).trans h.2.1, (hb.cell (p := ⟨b, 2, none⟩) hl).trans h.2.2⟩
set_option maxRecDepth 100000 in
theorem word_at (st : Nat) (W : World) (u : ByteArray) (h : #[ByteArray.mk #[], ⟨#[112, 97, 115, 115]⟩, ⟨#[102, 97, 105, 108]⟩, ⟨#[115, 107, 105, 112]⟩][st]? = some u) :
    (Instr.index 66 (.agg #[.string ⟨#[]⟩, .string ⟨#[112, 97, 115, 115]⟩, .string ⟨#[102, 97, 105, 108]⟩, .string ⟨#[115, 107, 105, 112]⟩]) (.int .i64 (st : Nat))).run Tryz.prog W = .ok (.string u) W := by
  have hu := run_underlying (P := Tryz.prog) Tryz.underlying66
  have h4 : st < 4 := (Array.getElem?_eq_some_iff.1 h).1
  rcases (show st = 0 ∨ st = 1 ∨ st = 2 ∨ st = 3 by omega) with rfl | rfl | rfl | rfl <;> (injection h with h; subst h; simp [Instr.index, hu, asIntOf, go_sem])
/-- the round's own world, so far -/
def Sh2 (W2 W : World) : Prop := Below W2.heap.size W2 W

set_option maxRecDepth 100000 in
set_option maxHeartbeats 3200000 in
theorem show_any (v : Value) (rs : List Qu) (m : Int) (w : World) (h : QuAt w v rs) (hm : w.cell? ⟨0, 0, none⟩ = some (.int .i64 m)) (hml : 0 < w.heap.size) (hp : Pow10At w) :
    Calls Tryz.prog 13 #[v] w (ShPost (showV rs) w) := by
  have H := Lib.hid h
  have HP := Lib.hid hp
  have VA := Lib.hid (valid_any v rs m w h hm hml)
  obtain ⟨ao, cap, rfl⟩ := SlAt.form h
  clear h hm hml hp
  go_enter Tryz.func13, Tryz.ntmps13
  go_wp2_with fail
  refine VA.out.mono ?_
  rintro e w1 ⟨rfl, hb⟩
  have HB1 := Lib.hid hb
  clear hb VA
  by_cases hv : validR rs = 0
  · have HS : Hid (showV rs = linesV rs) := by unfold Hid showV; rw [if_pos hv]
    have t0 : (((validR rs : Nat) : Int) != 0) = false := by rw [hv]; rfl
    have HV := Lib.hid hv
    have hl := (validR_all hv).1
    have HALL := Lib.hid (vTo_all [] rs (validR_all hv).2)
    clear hv
    obtain ⟨W2, hW2⟩ : ∃ W2, w1.alloc (.cells #[.pointer none, .slice none 0 0] 61 (0, 0)) = W2 := ⟨_, rfl⟩
    have HF : Hid (Lib.IsBuilderF 61 5 w1.heap.size w1.heap.size [] W2) := by unfold Hid; rw [← hW2]; exact Lib.IsBuilderF.of (Lib.fresh_isBuilder 61 5 w1)
    have HB2 : Hid (Below w1.heap.size w1 W2) := by unfold Hid; rw [← hW2]; exact (Below.refl _ _).alloc (Nat.le_refl _) _
    go_wp2_with fail
    go_loopg [11] rs.length (ShRel w1 rs)
    case atStart => exact ⟨0, rfl, Nat.zero_le _, rfl, by rw [List.take_zero]; exact HF.out, HB2.out⟩
    case round =>
      obtain ⟨k, rfl, hk, rfl, hbu, hbr⟩ := hrel
      have HBU := Lib.hid hbu
      have HBR := Lib.hid hbr
      have hbs := hbr.size
      clear hbu hbr
      by_cases hlt : k < rs.length
      · obtain ⟨b, off, rfl, hbl, c0, c1, c2⟩ := QuAt.at3 (SlAt.below H.out (HB1.out.trans (HBR.out.mono HB1.out.size))) hlt
        have hii : (k : Int) < (rs.length : Int) := by omega
        have HT := Lib.hid (linesV_take hlt)
        have HLN : Hid ((linesV (rs.take k)).length ≤ 2457600) := by
          have a := linesV_len (rs.take k) fun q hq => HALL.out q (List.mem_of_mem_take hq)
          rw [List.length_take] at a
          unfold Hid
          omega
        obtain ⟨hnb, hnr⟩ := HALL.out rs[k] (List.getElem_mem hlt)
        have HNR := Lib.hid (range_not hnr)
        have HNB := Lib.hid (bad_not hnb)
        have HLE := Lib.hid (lineV_len hnb hnr)
        generalize rs[k] = q at *
        generalize linesV (rs.take k) = bs at *
        clear hnb hnr HALL
        obtain ⟨W3, hW3⟩ : ∃ W3, wr.alloc (.cells #[.string q.name, .int .i64 q.since, .int .i64 q.til] 41 (0, 0)) = W3 := ⟨_, rfl⟩
        have hb3 : Below wr.heap.size wr W3 := by rw [← hW3]; exact (Below.refl _ _).alloc (Nat.le_refl _) _
        have hg3 : W3.heap[wr.heap.size]? = some (.cells #[.string q.name, .int .i64 q.since, .int .i64 q.til] 41 (0, 0)) := by rw [← hW3]; exact hp_new rfl
        have hl3 : wr.heap.size < W3.heap.size := (Array.getElem?_eq_some_iff.1 hg3).1
        have hc3 : C3 wr.heap.size q W3 := ⟨cell_of_blk hg3 0, cell_of_blk hg3 1, cell_of_blk hg3 2⟩
        have hbl1 : w1.heap.size < wr.heap.size := HBU.out.elim (fun x => x.lt) (fun x => x.lt)
        have HB3 := Lib.hid (HBR.out.trans (hb3.mono hbs))
        have HBU3 := Lib.hid (buF_below HBU.out hb3)
        have HG3 := Lib.hid hg3
        have HC3 := Lib.hid hc3
        have WRD : Hid (∀ W, Sh2 W3 W → Calls Tryz.prog 33 #[] W fun e w' => e = .returned (.agg #[.string ⟨#[]⟩, .string ⟨#[112, 97, 115, 115]⟩, .string ⟨#[102, 97, 105, 108]⟩, .string ⟨#[115, 107, 105, 112]⟩]) ∧ C3 wr.heap.size q w' ∧ Sh2 W3 w') := fun W hW =>
          (words_any W).mono (by
            rintro e w' ⟨rfl, hb⟩
            have hb9 : Below W3.heap.size W3 w' := Below.trans hW (hb.mono (Below.size hW))
            exact ⟨rfl, C3.below HC3.out hl3 hb9, hb9⟩)
        have ITO : Hid (∀ W, Sh2 W3 W → Calls Tryz.prog 34 #[.int .i64 q.til] W fun e w' => e = .returned (.string ⟨(Lib.itoa q.til).toArray⟩) ∧ C3 wr.heap.size q w' ∧ Sh2 W3 w') := fun W hW =>
          (Tryz.strconv_Itoa q.til (by have := HNR.out; omega) (by have := HNR.out; omega) W ((HP.out.below (HB1.out.trans ((HB3.out.mono HB1.out.size)))).below hW).here).mono (by
            rintro e w' ⟨rfl, kk, os, rfl⟩
            have hb9 : Below W3.heap.size W3 _ := Below.trans hW (Lib.below_grow W3.heap.size W (Below.size hW) kk os)
            exact ⟨rfl, C3.below HC3.out hl3 hb9, hb9⟩)
        have WRS : Hid (∀ W s, Sh2 W3 W → s.data.toList = lineV q → Calls Tryz.prog 32 #[.pointer (some ⟨w1.heap.size, 0, none⟩), .string s] W fun e w' => e = .returned (.tuple #[.int .i64 s.size, .nilIface]) ∧ C3 wr.heap.size q w' ∧ Lib.IsBuilderF 61 5 w1.heap.size w1.heap.size (Lib.byteCells (bs ++ lineV q)) w' ∧ Below w1.heap.size w1 w') := fun W s hW hs =>
          (Any.Builder_WriteString_k Tryz.lays166 Tryz.Builder_Extra_166 w1.heap.size w1.heap.size (Lib.byteCells bs) s W (buF_below HBU3.out hW) (by rw [Lib.byteCells_length, Lib.size_eq, hs]; have := HLN.out; have := HLE.out; omega) (Nat.le_trans HB3.out.size (Below.size hW))).mono (by
            rintro e w' ⟨rfl, hbu, hb9, hok⟩
            have hg9 := hok wr.heap.size _ ((Below.block hW _ hl3).trans HG3.out) (by intro e; injection e with e; have := hbl1; omega) (by rintro c fz ⟨⟩)
            refine ⟨rfl, ⟨cell_of_blk hg9 0, cell_of_blk hg9 1, cell_of_blk hg9 2⟩, ?_, (HB3.out.trans (Below.mono hW HB3.out.size)).trans hb9⟩
            rw [Lib.byteCells_append, ← hs, ← Lib.strCells_eq]
            exact .inr hbu)
        have hx1 := parts_len HNB.out.1
        have hx2 := itoa_small HNR.out.1 HNR.out.2
        have hx3 := Lib.size_eq q.name
        have HLV : Hid (lineV q = wordV q.since ++ ([32] ++ (q.name.data.toList ++ ([32] ++ (Lib.itoa q.til ++ [10]))))) := rfl
        obtain ⟨it, hit⟩ : ∃ it, Lib.itoa q.til = it := ⟨_, rfl⟩
        rw [hit] at ITO HLV hx2
        have ha1 : ¬ 9223372036854775807 < 5 + q.name.size := by omega
        have ha2 : ¬ 9223372036854775807 < 5 + q.name.size + 1 := by omega
        have ha3 : ¬ 9223372036854775807 < 5 + q.name.size + 1 + it.length := by omega
        have ha4 : ¬ 9223372036854775807 < 5 + q.name.size + 1 + it.length + 1 := by omega
        clear hit hx1 hx2 hx3
        have hs0 : Sh2 W3 W3.drew := (Below.refl _ W3).drew
        have hc0 : C3 wr.heap.size q W3.drew := HC3.out
        clear hg3 hb3
        have h123 : q.since = 1 ∨ q.since = 2 ∨ q.since = 3 := by have := HNB.out; omega
        obtain ⟨nm, st, ti⟩ := q
        dsimp only at ha1 ha2 ha3 ha4 h123 c0 c1 c2 hW3 hc0 WRD ITO WRS HLV HLE HNB HNR
        rcases h123 with rfl | rfl | rfl
        · have hix : ∀ W, (Instr.index 66 (.agg #[.string ⟨#[]⟩, .string ⟨#[112, 97, 115, 115]⟩, .string ⟨#[102, 97, 105, 108]⟩, .string ⟨#[115, 107, 105, 112]⟩]) (.int .i64 1)).run Tryz.prog W = .ok (.string ⟨#[112, 97, 115, 115]⟩) W := fun W => word_at 1 W _ rfl
          as_aux_lemma =>
          go_wp2_with fail
          clear hW3 c0 c1 c2
          go_region_held3 (fun w' => w'.cell? ⟨wr.heap.size, 0, none⟩ = some (.string nm) ∧ w'.cell? ⟨wr.heap.size, 1, none⟩ = some (.int .i64 1) ∧ w'.cell? ⟨wr.heap.size, 2, none⟩ = some (.int .i64 ti)) (first | exact hc0 | exact hcC | exact hcB | exact hcA | go_keep)
            (first
              | (go_at_call 33; refine (WRD.out _ (by assumption)).mono ?_; rintro e wA ⟨rfl, hcA, hsA⟩)
              | (go_at_call 34; refine (ITO.out _ (by assumption)).mono ?_; rintro e wB ⟨rfl, hcB, hsB⟩)
              | (go_at_call 32; refine (WRS.out _ _ (by assumption) (by rw [HLV.out]; simp [wordV])).mono ?_; rintro e wC ⟨rfl, hcC, hbC, hlC⟩))
          all_goals (
            go_wp2_with fail
            go_roundg (rs.length - (k + 1))
            case measure => omega
            case rel => exact ⟨k + 1, by go_num, by omega, rfl, by rw [HT.out]; exact hbC, hlC⟩)
        · have hix : ∀ W, (Instr.index 66 (.agg #[.string ⟨#[]⟩, .string ⟨#[112, 97, 115, 115]⟩, .string ⟨#[102, 97, 105, 108]⟩, .string ⟨#[115, 107, 105, 112]⟩]) (.int .i64 2)).run Tryz.prog W = .ok (.string ⟨#[102, 97, 105, 108]⟩) W := fun W => word_at 2 W _ rfl
          as_aux_lemma =>
          go_wp2_with fail
          clear hW3 c0 c1 c2
          go_region_held3 (fun w' => w'.cell? ⟨wr.heap.size, 0, none⟩ = some (.string nm) ∧ w'.cell? ⟨wr.heap.size, 1, none⟩ = some (.int .i64 2) ∧ w'.cell? ⟨wr.heap.size, 2, none⟩ = some (.int .i64 ti)) (first | exact hc0 | exact hcC | exact hcB | exact hcA | go_keep)
            (first
              | (go_at_call 33; refine (WRD.out _ (by assumption)).mono ?_; rintro e wA ⟨rfl, hcA, hsA⟩)
              | (go_at_call 34; refine (ITO.out _ (by assumption)).mono ?_; rintro e wB ⟨rfl, hcB, hsB⟩)
              | (go_at_call 32; refine (WRS.out _ _ (by assumption) (by rw [HLV.out]; simp [wordV])).mono ?_; rintro e wC ⟨rfl, hcC, hbC, hlC⟩))
          all_goals (
            go_wp2_with fail
            go_roundg (rs.length - (k + 1))
            case measure => omega
            case rel => exact ⟨k + 1, by go_num, by omega, rfl, by rw [HT.out]; exact hbC, hlC⟩)
        · have hix : ∀ W, (Instr.index 66 (.agg #[.string ⟨#[]⟩, .string ⟨#[112, 97, 115, 115]⟩, .string ⟨#[102, 97, 105, 108]⟩, .string ⟨#[115, 107, 105, 112]⟩]) (.int .i64 3)).run Tryz.prog W = .ok (.string ⟨#[115, 107, 105, 112]⟩) W := fun W => word_at 3 W _ rfl
          as_aux_lemma =>
          go_wp2_with fail
          clear hW3 c0 c1 c2
          go_region_held3 (fun w' => w'.cell? ⟨wr.heap.size, 0, none⟩ = some (.string nm) ∧ w'.cell? ⟨wr.heap.size, 1, none⟩ = some (.int .i64 3) ∧ w'.cell? ⟨wr.heap.size, 2, none⟩ = some (.int .i64 ti)) (first | exact hc0 | exact hcC | exact hcB | exact hcA | go_keep)
            (first
              | (go_at_call 33; refine (WRD.out _ (by assumption)).mono ?_; rintro e wA ⟨rfl, hcA, hsA⟩)
              | (go_at_call 34; refine (ITO.out _ (by assumption)).mono ?_; rintro e wB ⟨rfl, hcB, hsB⟩)
              | (go_at_call 32; refine (WRS.out _ _ (by assumption) (by rw [HLV.out]; simp [wordV])).mono ?_; rintro e wC ⟨rfl, hcC, hbC, hlC⟩))
          all_goals (
            go_wp2_with fail
            go_roundg (rs.length - (k + 1))
            case measure => omega
            case rel => exact ⟨k + 1, by go_num, by omega, rfl, by rw [HT.out]; exact hbC, hlC⟩)
      · have hke : k = rs.length := by omega
        subst hke
        rw [List.take_length] at HBU
        have ST := Lib.hid (Tryz.Builder_String_any_f w1.heap.size w1.heap.size (linesV rs) wr HBU.out hbs)
        clear HBU
        as_aux_lemma =>
        go_wp2_with fail
        refine ST.out.mono ?_
        rintro e w9 ⟨rfl, _, hb9⟩
        have HB9 := Lib.hid (HB1.out.trans ((HBR.out.trans hb9).mono HB1.out.size))
        clear hb9 ST
        go_wp2_with fail
        go_ret
        exact ⟨_, rfl, by rw [HS.out], HB9.out⟩
  · have t0 : (((validR rs : Nat) : Int) != 0) = true := by rw [bne_iff_ne]; omega
    have HS : Hid (showV rs = []) := by unfold Hid showV; rw [if_neg hv]
    clear hv
    as_aux_lemma =>
    go_wp2_with fail
    go_ret
    exact ⟨_, rfl, by rw [HS.out], HB1.out⟩
end Go.Proofs.YtngbjnjkcniabaaGreatDoor
