/- Results of tests in memory: Clone, Same, Apply. -/
import Derived.Test.YthnodeicbicjcaaDoorQua6
namespace Go.Proofs.YthnodeicbicjcaaDoor
open Go.RowKit

theorem Tryd.info45 : (Tryd.prog.info? 45).map (fun i => (i.zero, i.size, i.bytes)) = some (some (.agg #[.string ByteArray.empty, .int .i64 0, .int .i64 0]), 3, 32) := by kernel_rfl
theorem Tryd.info45' : ∃ i, Tryd.prog.info? 45 = some i ∧ i.zero = some (.agg #[.string ByteArray.empty, .int .i64 0, .int .i64 0]) ∧ i.size = 3 ∧ i.bytes = 32 := info_parts Tryd.info45

def TrRow (w : World) (base : Nat) (v : Value) (qs : List Qu) : Prop := w.ownsRow base 45 3 v qs.length (qs.flatMap Qu.cells)
theorem TrRow.at {w : World} {base : Nat} {v : Value} {qs : List Qu} (h : TrRow w base v qs) : QuAt w v qs := SlAt.of_row h Qu.cells_len (by decide)
def TrPost (qs : List Qu) (w : World) (e : Ending) (w' : World) : Prop := ∃ v, e = .returned v ∧ TrRow w' w.heap.size v qs ∧ Below w.heap.size w w'

/-- what is owned can be written, one cell at a time -/
theorem TrRow.open_ {w : World} {base : Nat} {v : Value} {qs : List Qu} (h : TrRow w base v qs) (hne : 0 < qs.length) :
    ∃ g cap, v = .slice (some ⟨g, 0, none⟩) qs.length cap ∧ base ≤ g ∧ g < w.heap.size ∧ (∀ i, w.frozen? ⟨g, i, none⟩ = false) ∧
      ∀ (i : Nat) (hi : i < qs.length) (j : Nat) (u : Value) (y : Qu), j < 3 → y.cells = qs[i].cells.set j u → TrRow (w.setCell ⟨g, i * 3 + j, none⟩ u) base v (qs.set i y) ∧ ∃ o, Wrote g o w (w.setCell ⟨g, i * 3 + j, none⟩ u) := by
  obtain ⟨hl, hr⟩ := h
  rcases hr with ⟨_, h0⟩ | ⟨g, cap, cur, hv, hb, hg, hn, hm, hs, ht⟩
  · omega
  · refine ⟨g, cap, hv, hb, (Array.getElem?_eq_some_iff.1 hg).1, fun i => free_of_blk hg i, ?_⟩
    intro i hi j u y hj hy
    have hW := wrote_setCell hg (i * 3 + j) u
    refine ⟨⟨by rw [flatMap_set Qu.cells_len qs i hi j u y hj hy]; simpa using hl, .inr ⟨g, cap, _, by rw [List.length_set]; exact hv, hb, hW.at_, by rw [List.length_set]; exact hn, hm, by simp [hs], ?_⟩⟩, _, hW⟩
    rw [Array.toList_setIfInBounds, List.take_set, List.length_set, ht, flatMap_set Qu.cells_len qs i hi j u y hj hy]

theorem TrRow.lit {w : World} {base g n cap : Nat} {qs : List Qu} (h : TrRow w base (.slice (some ⟨g, 0, none⟩) n cap) qs) {k : Nat} (hk : k < qs.length) :
    base ≤ g ∧ g < w.heap.size ∧ (∀ i, w.frozen? ⟨g, i, none⟩ = false) ∧ w.cell? ⟨g, k * 3, none⟩ = some (.string qs[k].name) ∧ w.cell? ⟨g, k * 3 + 1, none⟩ = some (.int .i64 qs[k].since) ∧ w.cell? ⟨g, k * 3 + 2, none⟩ = some (.int .i64 qs[k].til) ∧
      ∀ (j : Nat) (u : Value) (y : Qu), j < 3 → y.cells = qs[k].cells.set j u → TrRow (w.setCell ⟨g, k * 3 + j, none⟩ u) base (.slice (some ⟨g, 0, none⟩) n cap) (qs.set k y) ∧ ∃ o, Wrote g o w (w.setCell ⟨g, k * 3 + j, none⟩ u) := by
  obtain ⟨g', cap', hv, hbg, hgw, hfz, hset⟩ := TrRow.open_ h (by omega)
  injection hv with e1 e2 e3
  injection e1 with e1
  injection e1 with e1
  subst e1
  obtain ⟨g', c', hv', _, _, _, hcs⟩ := ownsRow_at (f := Qu.cells) h Qu.cells_len (by decide) hk
  injection hv' with f1 f2 f3
  injection f1 with f1
  injection f1 with f1
  subst f1
  have c0 := hcs 0 _ rfl
  simp only [Nat.add_zero] at c0
  exact ⟨hbg, hgw, hfz, c0, hcs 1 _ rfl, hcs 2 _ rfl, fun j u y hj hy => hset k hk j u y hj hy⟩


set_option maxRecDepth 100000 in
set_option maxHeartbeats 800000 in
theorem clonet_any (v : Value) (qs : List Qu) (hn : qs.length ≤ 1000000) (w : World) (h : QuAt w v qs) :
    Calls Tryd.prog 36 #[v] w (TrPost qs w) := by
  obtain ⟨ao, cap, rfl⟩ := h.form
  obtain ⟨i48, hi48⟩ := Tryd.info45'
  have HI := Lib.hid hi48
  have H := Lib.hid h
  have qq : ∀ (w : World) (a : Option Addr) (n c n' c' : Nat), (binOp .eql 35 (.slice a n c) (.slice none n' c')).run Tryd.prog w = .ok (.bool a.isNone) w := fun w a n c n' c' => Lib.run_eql_slice_nil w _ _ a n c n' c' Tryd.underlying35
  clear h hi48
  go_enter Tryd.func36, Tryd.ntmps36
  cases ao with
  | none =>
    have h0 : qs = [] := by
      rcases H.out with ⟨_, _, _, e⟩ | ⟨b, off, c, e, _⟩
      · exact e
      · injection e with e1; cases e1
    subst h0
    go_wp2_with fail
    go_ret
    exact ⟨_, rfl, World.ownsRow_nil _ _ _ _, Below.refl _ _⟩
  | some ad =>
    obtain ⟨b, off, sp⟩ := ad
    have hfl := SlAt.flat (f := Qu.cells) Qu.cells_len H.out
    have HFL := Lib.hid (show ∀ (j : Nat) (u : Value), (qs.flatMap Qu.cells)[j]? = some u → (w.alloc (.cells #[] 45)).cell? ((⟨b, off, sp⟩ : Addr).add j) = some u from fun j u hj => Lib.cell?_alloc_some _ (hfl j u hj))
    have HLEN : Hid ((qs.flatMap Qu.cells).length = qs.length * 3) := by
      unfold Hid
      rw [List.length_flatMap]
      have : (qs.map fun q => q.cells.length) = List.replicate qs.length 3 := by rw [List.eq_replicate_iff]; simp [Qu.cells]
      rw [this]; simp
    have HONE : Hid ((qs.flatMap Qu.cells).all (·.oneCell') = true) := by
      unfold Hid
      rw [List.all_eq_true]
      intro u hu
      obtain ⟨q, _, hq⟩ := List.mem_flatMap.1 hu
      simp only [Qu.cells, List.mem_cons, List.not_mem_nil, or_false] at hq
      rcases hq with rfl | rfl | rfl <;> rfl
    clear hfl
    go_wp2_with (at_builtin; refine wpList_append2 rfl _ _ 35 rfl w.heap.size 45 i48 (.agg #[.string ByteArray.empty, .int .i64 0, .int .i64 0]) 3 32 Tryd.underlying35 HI.out rfl (by decide) _ 0 [] rfl (World.ownsRow_made w #[] 0 (Nat.le_refl _) (Nat.zero_le _) rfl) ⟨b, off, sp⟩ qs.length cap (qs.flatMap Qu.cells) rfl HLEN.out HFL.out HONE.out (by unfold maxLen; omega) (by omega) (by simp) ?_)
    intro v' w3 hown hgrow hwh
    obtain ⟨ao', cap', rfl⟩ := ownsRow_form hown
    have HOWN := Lib.hid hown
    have HBG := Lib.hid (((Below.refl w.heap.size w).alloc (Nat.le_refl _) (.cells #[] 45)).grown hgrow (by simp) (by intro k hk; simp [Value.ownBlock] at hk; omega))
    clear hown hgrow hwh
    go_wp2_with fail
    go_ret
    exact ⟨_, rfl, by simpa [TrRow] using HOWN.out, HBG.out⟩

def SameRelT (w1 : World) (xs : List Qu) (f : Nat) (t5 : Value) (wr : World) : Prop :=
  ∃ k : Nat, t5 = .int .i64 (k : Nat) ∧ k ≤ xs.length ∧ f = xs.length - k ∧ Below w1.heap.size w1 wr

set_option maxRecDepth 100000 in
set_option maxHeartbeats 800000 in
/-- a list is the same as itself -/
theorem samet_any (v u : Value) (qs : List Qu) (hn : qs.length ≤ 1000000) (w : World) (h : QuAt w v qs) (h2 : QuAt w u qs) :
    Calls Tryd.prog 18 #[v, u] w fun e w' => e = .returned (.bool true) ∧ Below w.heap.size w w' := by
  obtain ⟨ao, cap, rfl⟩ := h.form
  obtain ⟨bo, bcap, rfl⟩ := h2.form
  have H := Lib.hid h
  have H2 := Lib.hid h2
  clear h h2
  go_enter Tryd.func18, Tryd.ntmps18
  go_wp2_with fail
  go_loopg [5] qs.length (SameRelT w qs)
  case atStart => exact ⟨0, rfl, Nat.zero_le _, rfl, Below.refl _ _⟩
  case round =>
    obtain ⟨k, rfl, hk, rfl, hbel⟩ := hrel
    have HB := Lib.hid hbel
    clear hbel
    by_cases hlt : k < qs.length
    · obtain ⟨b, off, rfl, hbl, c0, c1, c2⟩ := QuAt.at3 (SlAt.below H.out HB.out) hlt
      obtain ⟨b', off', rfl, hbl', d0, d1, d2⟩ := QuAt.at3 (SlAt.below H2.out HB.out) hlt
      have hii : (k : Int) < (qs.length : Int) := by omega
      generalize qs[k] = q at *
      go_wp2_with fail
      go_region
      go_wp2
      go_roundg (qs.length - (k + 1))
      case measure => omega
      case rel => exact ⟨k + 1, by go_num, by omega, rfl, HB.out.drew⟩
    · have hii : ¬ (k : Int) < (qs.length : Int) := by omega
      go_wp2_with fail
      go_ret
      exact ⟨rfl, HB.out⟩

/-- a result under a list (since: the status, til: the time) -/
def apF (qs : List Qu) (now : Int) (r : Qu) : Qu := if r.since = 2 ∧ qs.any (actF r.name now) = true then ⟨r.name, 3, r.til⟩ else r
def mixF (qs : List Qu) (now : Int) (rs : List Qu) (k : Nat) : List Qu := (rs.take k).map (apF qs now) ++ rs.drop k
theorem mixF_len (qs : List Qu) (now : Int) (rs : List Qu) (k : Nat) : (mixF qs now rs k).length = rs.length := by unfold mixF; simp; omega
theorem mixF_at {qs : List Qu} {now : Int} {rs : List Qu} {k : Nat} (hk : k < rs.length) : (mixF qs now rs k)[k]'(by rw [mixF_len]; exact hk) = rs[k] := by
  unfold mixF
  rw [List.getElem_append_right (by simp; omega)]
  simp [Nat.min_eq_left (Nat.le_of_lt hk)]
theorem mixF_set {qs : List Qu} {now : Int} {rs : List Qu} {k : Nat} (hk : k < rs.length) : (mixF qs now rs k).set k (apF qs now rs[k]) = mixF qs now rs (k + 1) := by
  unfold mixF
  rw [List.set_append_right _ _ (by simp; omega), List.take_add_one, List.getElem?_eq_getElem hk, List.map_append, List.append_assoc]
  congr 1
  rw [List.drop_eq_getElem_cons hk, show k - ((rs.take k).map (apF qs now)).length = 0 by simp; omega]
  rfl
theorem mixF_same {qs : List Qu} {now : Int} {rs : List Qu} {k : Nat} (hk : k < rs.length) (h : apF qs now rs[k] = rs[k]) : mixF qs now rs (k + 1) = mixF qs now rs k := by
  rw [← mixF_set hk, h]
  have := mixF_at (qs := qs) (now := now) hk
  rw [← this]
  exact List.set_getElem_self _

def ApRel (w1 : World) (v7 : Value) (qs : List Qu) (now : Int) (rs : List Qu) (f : Nat) (t14 : Value) (wr : World) : Prop :=
  ∃ k : Nat, t14 = .int .i64 (k : Nat) ∧ k ≤ rs.length ∧ f = rs.length - k ∧ TrRow wr w1.heap.size v7 (mixF qs now rs k) ∧ Below w1.heap.size w1 wr

set_option maxRecDepth 100000 in
set_option maxHeartbeats 1600000 in
theorem apply_any (v u : Value) (rs qs : List Qu) (hn : rs.length ≤ 1000000) (hm : qs.length ≤ 1000000) (now : Int) (w : World) (h : QuAt w v rs) (h2 : QuAt w u qs) :
    Calls Tryd.prog 19 #[v, u, .int .i64 now] w (TrPost (rs.map (apF qs now)) w) := by
  have H := Lib.hid h
  have H2 := Lib.hid h2
  clear h h2
  go_enter Tryd.func19, Tryd.ntmps19
  go_wp2_with fail
  refine (clonet_any v rs hn w H.out).mono ?_
  rintro e w1 ⟨cv, rfl, hrow, hb⟩
  obtain ⟨ao, cap, rfl⟩ := ownsRow_form hrow
  have HR := Lib.hid hrow
  have HB := Lib.hid hb
  clear hrow hb
  go_wp2_with fail
  go_loopg [14] rs.length (ApRel w (.slice ao rs.length cap) qs now rs)
  case atStart => exact ⟨0, rfl, Nat.zero_le _, rfl, by unfold mixF; simpa using HR.out, HB.out⟩
  case round =>
    obtain ⟨k, rfl, hk, rfl, hrow, hbel⟩ := hrel
    have HR := Lib.hid hrow
    have HB := Lib.hid hbel
    have hzr := hbel.size
    clear hrow hbel
    by_cases hlt : k < rs.length
    · have hl : k < (mixF qs now rs k).length := by rw [mixF_len]; exact hlt
      obtain ⟨g, cap', hv, _⟩ := TrRow.open_ HR.out (by omega)
      injection hv with e1 e2 e3
      subst e1
      obtain ⟨hbg, hgw, hfz, c0, c1, c2, hset⟩ := TrRow.lit HR.out hl
      rw [mixF_at hlt] at c0 c1 c2 hset
      have HSET := Lib.hid hset
      have HMS := Lib.hid (mixF_set (qs := qs) (now := now) hlt)
      have HMM := Lib.hid (fun h => mixF_same (qs := qs) (now := now) hlt h)
      have z1 := hfz (k * 3 + 1)
      clear hset hfz e2 e3 hl
      have hki : (k : Int) < (rs.length : Int) := by omega
      generalize hrk : rs[k] = r at *
      have HRKX := Lib.hid hrk
      clear hrk
      by_cases h2 : r.since = 2
      · have t2 : (r.since == 2) = true := by simp [h2]
        have HAP : Hid (apF qs now r = if qs.any (actF r.name now) = true then ⟨r.name, 3, r.til⟩ else r) := by
          unfold Hid apF; simp [h2]
        clear h2
        go_wp2_with fail
        have hba : Below w.heap.size w (wr.alloc (.cells #[.string r.name, .int .i64 r.since, .int .i64 r.til] 45)) := HB.out.alloc hzr _
        refine (active_any u qs hm r.name now _ (SlAt.below H2.out hba)).mono ?_
        rintro e w2 ⟨rfl, hb⟩
        have HR2 := Lib.hid (show TrRow w2 w.heap.size (.slice (some ⟨g, 0, none⟩) rs.length cap) (mixF qs now rs k) from ownsRow_below (HR.out.alloc _) hb)
        have HB2 := Lib.hid (hba.trans (hb.mono hba.size))
        have hz2 := HB2.out.size
        clear hb hba
        cases ho : qs.any (actF r.name now) with
        | true =>
          have HU : Hid (apF qs now r = ⟨r.name, 3, r.til⟩) := by unfold Hid; rw [HAP.out, if_pos ho]
          clear ho
          obtain ⟨_, _, hfz2, d0, d1, d2, hset2⟩ := TrRow.lit HR2.out (k := k) (by rw [mixF_len]; exact hlt)
          have zz := hfz2 (k * 3 + 1)
          rw [mixF_at hlt, HRKX.out] at d0 d1 d2 hset2
          have HS2 := Lib.hid (hset2 1 (.int .i64 3) ⟨r.name, 3, r.til⟩ (by decide) rfl)
          clear hfz2 hset2
          as_aux_lemma =>
          go_wp2_with fail
          go_roundg (rs.length - (k + 1))
          case measure => omega
          case rel =>
            obtain ⟨hrow, o, hW⟩ := HS2.out
            refine ⟨k + 1, by go_num, by omega, rfl, ?_, HB2.out.trans (hW.below (by omega))⟩
            rw [← HMS.out, HU.out]
            exact hrow
        | false =>
          have HU : Hid (apF qs now r = r) := by unfold Hid; rw [HAP.out, if_neg (by rw [ho]; decide)]
          clear ho
          as_aux_lemma =>
          go_wp2_with fail
          go_roundg (rs.length - (k + 1))
          case measure => omega
          case rel => exact ⟨k + 1, by go_num, by omega, rfl, by rw [HMM.out HU.out]; exact HR2.out, HB2.out⟩
      · have t2 : (r.since == 2) = false := by simp [h2]
        have HAP : Hid (apF qs now r = r) := by unfold Hid apF; rw [if_neg (fun h => h2 h.1)]
        clear h2
        as_aux_lemma =>
        go_wp2_with fail
        go_roundg (rs.length - (k + 1))
        case measure => omega
        case rel => exact ⟨k + 1, by go_num, by omega, rfl, by rw [HMM.out HAP.out]; exact HR.out.alloc _, HB.out.alloc hzr _⟩
    · have he : k = rs.length := by omega
      subst he
      go_wp2_with fail
      go_ret
      exact ⟨_, rfl, by have := HR.out; unfold mixF at this; simpa using this, HB.out⟩
end Go.Proofs.YthnodeicbicjcaaDoor
