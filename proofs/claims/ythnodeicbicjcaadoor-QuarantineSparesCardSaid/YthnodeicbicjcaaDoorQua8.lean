/- The walks over the reference's Apply, and over both Flaky. -/
import Derived.Test.YthnodeicbicjcaaDoorQua7
namespace Go.Proofs.YthnodeicbicjcaaDoor
open Go.RowKit

set_option maxRecDepth 100000 in
set_option maxHeartbeats 1600000 in
theorem rapply_any (v u : Value) (rs qs : List Qu) (hn : rs.length ≤ 1000000) (hm : qs.length ≤ 1000000) (now : Int) (w : World) (h : QuAt w v rs) (h2 : QuAt w u qs) :
    Calls Tryd.prog 20 #[v, u, .int .i64 now] w (TrPost (rs.map (apF qs now)) w) := by
  obtain ⟨vo, vcap, rfl⟩ := h.form
  have H := Lib.hid h
  have H2 := Lib.hid h2
  clear h h2
  go_enter Tryd.func20, Tryd.ntmps20
  go_upto_region 1 with fail
  go_cut [7] (fun s7 wx => TrRow wx w.heap.size s7 rs ∧ Below w.heap.size w wx)
  case first =>
    obtain ⟨i45, hi45⟩ := Tryd.info45'
    have HI := Lib.hid hi45
    clear hi45
    cases vo with
    | none =>
      have h0 : rs = [] := by
        rcases H.out with ⟨_, _, _, e⟩ | ⟨b, off, c, e, _⟩
        · exact e
        · injection e with e1; cases e1
      subst h0
      as_aux_lemma =>
      go_wp2_with fail
      go_meet
      case rel => exact ⟨World.ownsRow_made w #[] 0 (Nat.le_refl _) (Nat.zero_le _) rfl, (Below.refl _ _).alloc (Nat.le_refl _) _⟩
    | some ad =>
      obtain ⟨b, off, sp⟩ := ad
      have hfl := SlAt.flat (f := Qu.cells) Qu.cells_len H.out
      have HFL := Lib.hid (show ∀ (j : Nat) (u : Value), (rs.flatMap Qu.cells)[j]? = some u → (w.alloc (.cells #[] 45)).cell? ((⟨b, off, sp⟩ : Addr).add j) = some u from fun j u hj => Lib.cell?_alloc_some _ (hfl j u hj))
      clear hfl
      as_aux_lemma =>
      go_wp2_with (at_builtin; refine wpList_append2 rfl _ _ 35 rfl w.heap.size 45 i45 (.agg #[.string ByteArray.empty, .int .i64 0, .int .i64 0]) 3 32 Tryd.underlying35 HI.out rfl (by decide) _ 0 [] rfl (World.ownsRow_made w #[] 0 (Nat.le_refl _) (Nat.zero_le _) rfl) ⟨b, off, sp⟩ rs.length vcap (rs.flatMap Qu.cells) rfl (flat_len rs) HFL.out (flat_one rs) (by unfold maxLen; omega) (by omega) (by simp) ?_)
      intro v' w3 hown hgrow hwh
      obtain ⟨ao', cap', rfl⟩ := ownsRow_form hown
      have HOWN := Lib.hid hown
      have HBG := Lib.hid (((Below.refl w.heap.size w).alloc (Nat.le_refl _) (.cells #[] 45)).grown hgrow (by simp) (by intro k hk; simp [Value.ownBlock] at hk; omega))
      clear hown hgrow hwh
      go_wp2_with fail
      go_meet
      case rel => exact ⟨by simpa [TrRow] using HOWN.out, HBG.out⟩
  case rest =>
    obtain ⟨hrow, hb⟩ := hcut
    obtain ⟨ao, cap, rfl⟩ := ownsRow_form hrow
    have HR := Lib.hid hrow
    have HB := Lib.hid hb
    clear hrow hb
    go_wp2_with fail
    go_loopg [8] rs.length (ApRel w (.slice ao rs.length cap) qs now rs)
    case atStart => exact ⟨0, rfl, Nat.zero_le _, rfl, by unfold mixF; simpa using HR.out, HB.out⟩
    case round =>
      obtain ⟨k, rfl, hk, rfl, hrow, hbel⟩ := hrel
      have HR := Lib.hid hrow
      have HB := Lib.hid hbel
      have hzr := hbel.size
      clear hrow hbel
      by_cases hlt : k < rs.length
      · have hl : k < (mixF qs now rs k).length := by rw [mixF_len]; exact hlt
        obtain ⟨g, cap', hv, _⟩ := TrRow.open_ HR.out (by omega)
        injection hv with e1 e2 e3
        subst e1
        obtain ⟨hbg, hgw, hfz, c0, c1, c2, hset⟩ := TrRow.lit HR.out hl
        rw [mixF_at hlt] at c0 c1 c2
        have HMS := Lib.hid (mixF_set (qs := qs) (now := now) hlt)
        have HMM := Lib.hid (fun h => mixF_same (qs := qs) (now := now) hlt h)
        clear hset hfz e2 e3 hl
        have hki : (k : Int) < (rs.length : Int) := by omega
        generalize hrk : rs[k] = r at *
        have HRKX := Lib.hid hrk
        clear hrk
        by_cases h2 : r.since = 2
        · have t2 : (r.since == 2) = true := by simp [h2]
          have HAP : Hid (apF qs now r = if qs.any (actF r.name now) = true then ⟨r.name, 3, r.til⟩ else r) := by
            unfold Hid apF; simp [h2]
          clear h2
          go_wp2_with fail
          refine (ractive_any u qs hm r.name now _ (SlAt.below H2.out HB.out)).mono ?_
          rintro e w2 ⟨rfl, hb⟩
          have HR2 := Lib.hid (show TrRow w2 w.heap.size (.slice (some ⟨g, 0, none⟩) rs.length cap) (mixF qs now rs k) from ownsRow_below HR.out hb)
          have HB2 := Lib.hid (HB.out.trans (hb.mono hzr))
          have hz2 := HB2.out.size
          clear hb
          cases ho : qs.any (actF r.name now) with
          | true =>
            have HU : Hid (apF qs now r = ⟨r.name, 3, r.til⟩) := by unfold Hid; rw [HAP.out, if_pos ho]
            clear ho
            obtain ⟨_, _, hfz2, d0, d1, d2, hset2⟩ := TrRow.lit HR2.out (k := k) (by rw [mixF_len]; exact hlt)
            have zz := hfz2 (k * 3 + 1)
            rw [mixF_at hlt, HRKX.out] at d0 d1 d2 hset2
            have HS2 := Lib.hid (hset2 1 (.int .i64 3) ⟨r.name, 3, r.til⟩ (by decide) rfl)
            clear hfz2 hset2
            as_aux_lemma =>
            go_wp2_with fail
            go_roundg (rs.length - (k + 1))
            case measure => omega
            case rel =>
              obtain ⟨hrow, o, hW⟩ := HS2.out
              refine ⟨k + 1, by go_num, by omega, rfl, ?_, HB2.out.trans (hW.below (by omega))⟩
              rw [← HMS.out, HU.out]
              exact hrow
          | false =>
            have HU : Hid (apF qs now r = r) := by unfold Hid; rw [HAP.out, if_neg (by rw [ho]; decide)]
            clear ho
            as_aux_lemma =>
            go_wp2_with fail
            go_roundg (rs.length - (k + 1))
            case measure => omega
            case rel => exact ⟨k + 1, by go_num, by omega, rfl, by rw [HMM.out HU.out]; exact HR2.out, HB2.out⟩
        · have t2 : (r.since == 2) = false := by simp [h2]
          have HAP : Hid (apF qs now r = r) := by unfold Hid apF; rw [if_neg (fun h => h2 h.1)]
          clear h2
          as_aux_lemma =>
          go_wp2_with fail
          go_roundg (rs.length - (k + 1))
          case measure => omega
          case rel => exact ⟨k + 1, by go_num, by omega, rfl, by rw [HMM.out HAP.out]; exact HR.out, HB.out⟩
      · have he : k = rs.length := by omega
        subst he
        go_wp2_with fail
        go_ret
        exact ⟨_, rfl, by have := HR.out; unfold mixF at this; simpa using this, HB.out⟩

structure Ev where
  name : ByteArray
  score : Int
  pairs : Int
  verdict : Int
  code : Int
  status : Int
def Ev.cells (q : Ev) : List Value := [.string q.name, .int .i64 q.score, .int .i64 q.pairs, .int .i64 q.verdict, .int .u64 q.code, .int .i64 q.status]
abbrev EvAt := SlAt 6 Ev.cells
theorem EvAt.at6 {w : World} {ao : Option Addr} {n cap : Nat} {xs : List Ev} (h : EvAt w (.slice ao n cap) xs) {k : Nat} (hk : k < xs.length) :
    ∃ b off, ao = some ⟨b, off, none⟩ ∧ b < w.heap.size ∧ w.cell? ⟨b, off + k * 6, none⟩ = some (.string xs[k].name) ∧ w.cell? ⟨b, off + k * 6 + 1, none⟩ = some (.int .i64 xs[k].score) ∧ w.cell? ⟨b, off + k * 6 + 2, none⟩ = some (.int .i64 xs[k].pairs) ∧
      w.cell? ⟨b, off + k * 6 + 3, none⟩ = some (.int .i64 xs[k].verdict) ∧ w.cell? ⟨b, off + k * 6 + 4, none⟩ = some (.int .u64 xs[k].code) ∧ w.cell? ⟨b, off + k * 6 + 5, none⟩ = some (.int .i64 xs[k].status) := by
  obtain ⟨b, off, h1, h2, h3⟩ := SlAt.at_ h hk
  exact ⟨b, off, h1, h2, h3 0 _ rfl, h3 1 _ rfl, h3 2 _ rfl, h3 3 _ rfl, h3 4 _ rfl, h3 5 _ rfl⟩

def flakF (es : List Ev) (k : Nat) : List ByteArray := ((es.take k).filter fun e => e.verdict == 2).map (·.name)
theorem flakF_hit {es : List Ev} {k : Nat} (hk : k < es.length) (h : (es[k].verdict == 2) = true) : flakF es (k + 1) = flakF es k ++ [es[k].name] := by
  unfold flakF
  rw [List.take_add_one, List.filter_append, List.getElem?_eq_getElem hk, List.map_append]
  simp only [Option.toList_some, List.filter_cons, h, if_true, List.filter_nil, List.map_cons, List.map_nil]
theorem flakF_miss {es : List Ev} {k : Nat} (hk : k < es.length) (h : (es[k].verdict == 2) = false) : flakF es (k + 1) = flakF es k := by
  unfold flakF
  rw [List.take_add_one, List.filter_append, List.getElem?_eq_getElem hk, List.map_append]
  simp [h]
theorem flakF_len (es : List Ev) (k : Nat) : (flakF es k).length ≤ es.length := by
  unfold flakF
  rw [List.length_map]
  exact Nat.le_trans (List.length_filter_le _ _) (List.length_take_le' _ _)

def StrRow (w : World) (base : Nat) (v : Value) (ss : List ByteArray) : Prop := w.ownsRow base 9 1 v ss.length (ss.map Value.string)
def StrPost (ss : List ByteArray) (w : World) (e : Ending) (w' : World) : Prop := ∃ v, e = .returned v ∧ StrRow w' w.heap.size v ss ∧ Below w.heap.size w w'
def FlakRel (w1 : World) (es : List Ev) (f : Nat) (t3 t8 : Value) (wr : World) : Prop :=
  ∃ k : Nat, t8 = .int .i64 (k : Nat) ∧ k ≤ es.length ∧ f = es.length - k ∧ StrRow wr w1.heap.size t3 (flakF es k) ∧ Below w1.heap.size w1 wr

set_option maxRecDepth 100000 in
set_option maxHeartbeats 1600000 in
theorem flaky_any (v : Value) (es : List Ev) (hn : es.length ≤ 1000000) (w : World) (h : EvAt w v es) :
    Calls Tryd.prog 37 #[v] w (StrPost (flakF es es.length) w) := by
  obtain ⟨ao, cap, rfl⟩ := h.form
  obtain ⟨i9, hi9⟩ := Tryd.info9'
  have HI := Lib.hid hi9
  have H := Lib.hid h
  clear h hi9
  go_enter Tryd.func37, Tryd.ntmps37
  go_wp2_with fail
  go_loopg [3, 8] es.length (FlakRel w es)
  case atStart => exact ⟨0, rfl, Nat.zero_le _, rfl, World.ownsRow_nil _ _ _ _, Below.refl _ _⟩
  case round =>
    obtain ⟨k, rfl, hk, rfl, hrow, hbel⟩ := hrel
    obtain ⟨ro, rcap, rfl⟩ := ownsRow_form hrow
    have HR := Lib.hid (show wr.ownsRow w.heap.size 9 1 _ _ _ from hrow)
    have HB := Lib.hid hbel
    have hfl := flakF_len es k
    have hzr := hbel.size
    clear hrow hbel
    by_cases hlt : k < es.length
    · obtain ⟨b, off, rfl, hbl, c0, c1, c2, c3, c4, c5⟩ := EvAt.at6 (SlAt.below H.out HB.out) hlt
      have hii : (k : Int) < (es.length : Int) := by omega
      have HHIT := Lib.hid (fun h => flakF_hit (es := es) hlt h)
      have HSN := Lib.hid (fun h => flakF_miss (es := es) hlt h)
      generalize es[k] = q at *
      cases hp : q.verdict == 2 with
      | true =>
        have HF := Lib.hid (HHIT.out hp)
        go_wp2_with (at_builtin; refine wpList_append2 rfl _ _ 54 rfl w.heap.size 9 i9 (.string ByteArray.empty) 1 16 Tryd.underlying54 HI.out rfl (by decide) _ _ _ rfl ((HR.out.alloc _).alloc _) ⟨wr.heap.size + 1, 0, none⟩ 1 1 [.string q.name] rfl rfl (cells_newAt (by simp) _ 9 (0, 0)) rfl (by unfold maxLen; omega) (by omega) (by simp; omega) ?_)
        intro v' w3 hown hgrow hwh
        obtain ⟨ao', cap', rfl⟩ := ownsRow_form hown
        have HOWN := Lib.hid hown
        have HBG := Lib.hid (((HB.out.alloc hzr _).alloc (by simp; omega) _).grown hgrow (by simp; omega) (fun j hj => (HR.out.lt j hj).1))
        clear hown hgrow hwh
        go_wp2_with fail
        go_roundg (es.length - (k + 1))
        case measure => omega
        case rel =>
          refine ⟨k + 1, by go_num, by omega, rfl, ?_, HBG.out⟩
          rw [HF.out]
          have := HOWN.out
          unfold StrRow
          simpa using this
      | false =>
        have HF := Lib.hid (HSN.out hp)
        go_wp2_with fail
        go_roundg (es.length - (k + 1))
        case measure => omega
        case rel =>
          refine ⟨k + 1, by go_num, by omega, rfl, ?_, HB.out.alloc hzr _⟩
          rw [HF.out]
          exact HR.out.alloc _
    · have hk' : k = es.length := by omega
      subst hk'
      go_wp2_with fail
      go_ret
      exact ⟨_, rfl, HR.out, HB.out⟩

set_option maxRecDepth 100000 in
set_option maxHeartbeats 1600000 in
theorem rflaky_any (v : Value) (es : List Ev) (hn : es.length ≤ 1000000) (w : World) (h : EvAt w v es) :
    Calls Tryd.prog 38 #[v] w (StrPost (flakF es es.length) w) := by
  obtain ⟨ao, cap, rfl⟩ := h.form
  obtain ⟨i9, hi9⟩ := Tryd.info9'
  have HI := Lib.hid hi9
  have H := Lib.hid h
  clear h hi9
  go_enter Tryd.func38, Tryd.ntmps38
  go_wp2_with fail
  go_loopg [3, 4] es.length (FlakRel w es)
  case atStart => exact ⟨0, rfl, Nat.zero_le _, rfl, World.ownsRow_nil _ _ _ _, Below.refl _ _⟩
  case round =>
    obtain ⟨k, rfl, hk, rfl, hrow, hbel⟩ := hrel
    obtain ⟨ro, rcap, rfl⟩ := ownsRow_form hrow
    have HR := Lib.hid (show wr.ownsRow w.heap.size 9 1 _ _ _ from hrow)
    have HB := Lib.hid hbel
    have hfl := flakF_len es k
    have hzr := hbel.size
    clear hrow hbel
    by_cases hlt : k < es.length
    · obtain ⟨b, off, rfl, hbl, c0, c1, c2, c3, c4, c5⟩ := EvAt.at6 (SlAt.below H.out HB.out) hlt
      have hii : (k : Int) < (es.length : Int) := by omega
      have HHIT := Lib.hid (fun h => flakF_hit (es := es) hlt h)
      have HSN := Lib.hid (fun h => flakF_miss (es := es) hlt h)
      generalize es[k] = q at *
      cases hp : q.verdict == 2 with
      | true =>
        have HF := Lib.hid (HHIT.out hp)
        go_wp2_with (at_builtin; refine wpList_append2 rfl _ _ 54 rfl w.heap.size 9 i9 (.string ByteArray.empty) 1 16 Tryd.underlying54 HI.out rfl (by decide) _ _ _ rfl (HR.out.alloc _) ⟨wr.heap.size, 0, none⟩ 1 1 [.string q.name] rfl rfl (cells_newAt rfl _ 9 (0, 0)) rfl (by unfold maxLen; omega) (by omega) (by simp; omega) ?_)
        intro v' w3 hown hgrow hwh
        obtain ⟨ao', cap', rfl⟩ := ownsRow_form hown
        have HOWN := Lib.hid hown
        have HBG := Lib.hid ((HB.out.alloc hzr _).grown hgrow (by simp; omega) (fun j hj => (HR.out.lt j hj).1))
        clear hown hgrow hwh
        go_wp2_with fail
        go_roundg (es.length - (k + 1))
        case measure => omega
        case rel =>
          refine ⟨k + 1, by go_num, by omega, rfl, ?_, HBG.out⟩
          rw [HF.out]
          have := HOWN.out
          unfold StrRow
          simpa using this
      | false =>
        have HF := Lib.hid (HSN.out hp)
        go_wp2_with fail
        go_roundg (es.length - (k + 1))
        case measure => omega
        case rel =>
          refine ⟨k + 1, by go_num, by omega, rfl, ?_, HB.out⟩
          rw [HF.out]
          exact HR.out
    · have hk' : k = es.length := by omega
      subst hk'
      go_wp2_with fail
      go_ret
      exact ⟨_, rfl, HR.out, HB.out⟩

end Go.Proofs.YthnodeicbicjcaaDoor
