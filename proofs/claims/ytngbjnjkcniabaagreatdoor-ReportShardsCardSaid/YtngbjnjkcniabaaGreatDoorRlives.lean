/- The walk over the law's lives. -/
import Derived.Test.YtngbjnjkcniabaaGreatDoorRp9
import Derived.Test.YtngbjnjkcniabaaGreatDoorRs3
namespace Go.Proofs.YtngbjnjkcniabaaGreatDoor
open Go.RowKit

theorem ev_parse : parseF [112, 97, 115, 115, 32, 97, 47, 98, 32, 49, 50, 10, 102, 97, 105, 108, 32, 116, 32, 48, 10] = ([([97, 47, 98], 1, 12), ([116], 2, 0)], 0, 0) := by decide +kernel
def q1 : Qu := ⟨⟨#[97, 47, 98]⟩, 1, 12⟩
def q2 : Qu := ⟨⟨#[116]⟩, 2, 0⟩
theorem qs_ev {qs : List Qu} (h : qs.map (fun q => (q.name.data.toList, q.since, q.til)) = [(([97, 47, 98] : List UInt8), (1 : Nat), (12 : Nat)), ([116], 2, 0)].map (fun r => (r.1, ((r.2.1 : Nat) : Int), ((r.2.2 : Nat) : Int)))) : qs = [q1, q2] := by
  rcases qs with _ | ⟨⟨a, b, c⟩, _ | ⟨⟨d, e, f⟩, _ | ⟨g, r⟩⟩⟩
  · cases h
  · injection h with h1 h2; cases h2
  · simp only [List.map_cons, List.map_nil, List.cons.injEq, Prod.mk.injEq] at h
    obtain ⟨⟨h1, h2, h3⟩, ⟨h4, h5, h6⟩, _⟩ := h
    subst h2 h3 h5 h6
    rw [data_injR (x := a) (y := ⟨#[97, 47, 98]⟩) h1, data_injR (x := d) (y := ⟨#[116]⟩) h4]
    rfl
  · injection h with h1 h2; injection h2 with h2 h3; cases h3
theorem ev_show : showV [q1] = [112, 97, 115, 115, 32, 97, 47, 98, 32, 49, 50, 10] := by decide +kernel
theorem ev_stat : statF [q1, q2] = 2 ∧ statF [q1] = 1 := by decide +kernel
theorem ev_fail : (failN [q1, q2]).length = 1 := by decide +kernel
theorem str_lit {s : ByteArray} {l : List UInt8} (h : s.data.toList = l) : s = ⟨l.toArray⟩ := by
  cases s; simp at h; subst h; simp
theorem SlAt.first {w : World} {ao : Option Addr} {c n : Nat} {q : Qu} {qs : List Qu} (h : QuAt w (.slice ao n c) (q :: qs)) : QuAt w (.slice ao 1 c) [q] := by
  rcases h with ⟨_, _, _, h⟩ | ⟨b, off, cap, e, h2, h3⟩
  · cases h
  · injection e with e1 e2 e3
    subst e1 e3
    exact .inr ⟨b, off, _, rfl, h2, fun k hk j u hu => by
      obtain rfl : k = 0 := by simp at hk; exact hk
      exact h3 0 (by simp) j u hu⟩
abbrev LawPost (w : World) (e : Ending) (w' : World) : Prop := e = .returned (.bool true) ∧ Below w.heap.size w w'
/-- what the walks need of the world's laid variables -/
structure Base36 (w : World) : Prop where
  ml : ∃ m : Int, w.cell? ⟨0, 0, none⟩ = some (.int .i64 m)
  mlt : 0 < w.heap.size
  er : ∃ ev : Value, w.cell? ⟨2, 0, none⟩ = some ev ∧ (ev = .nilIface ∨ ∃ te pe, ev = .iface te pe)
  ert : 2 < w.heap.size
  pw : Pow10At w
theorem Base36.below {w W : World} (h : Base36 w) (hb : Below w.heap.size w W) : Base36 W := by
  obtain ⟨⟨m, hm⟩, h2, ⟨ev, he, hev⟩, h4, h5⟩ := h
  exact ⟨⟨m, (hb.cell (p := ⟨0, 0, none⟩) h2).trans hm⟩, Nat.lt_of_lt_of_le h2 hb.size, ⟨ev, (hb.cell (p := ⟨2, 0, none⟩) h4).trans he, hev⟩, Nat.lt_of_lt_of_le h4 hb.size, h5.below hb⟩

theorem parse_b (s : ByteArray) (hsz : s.size ≤ 900000) (w : World) (h : Base36 w) : Calls Tryz.prog 10 #[.string s] w (PrPost s.data.toList w) := by
  obtain ⟨⟨m, hm⟩, h2, ⟨ev, he, hev⟩, h4, h5⟩ := h
  exact parse_any s m ev hsz w hm h2 he h4 hev
theorem show_b (v : Value) (rs : List Qu) (w : World) (h : QuAt w v rs) (hB : Base36 w) : Calls Tryz.prog 13 #[v] w (ShPost (showV rs) w) := by
  obtain ⟨⟨m, hm⟩, h2, _, h4, h5⟩ := hB
  exact show_any v rs m w h hm h2 h5
theorem valid_b (v : Value) (rs : List Qu) (w : World) (h : QuAt w v rs) (hB : Base36 w) : Calls Tryz.prog 15 #[v] w fun e w' => e = .returned (.int .i64 ((validR rs : Nat) : Int)) ∧ Below w.heap.size w w' := by
  obtain ⟨⟨m, hm⟩, h2, _, h4, h5⟩ := hB
  exact valid_any v rs m w h hm h2

set_option maxRecDepth 100000 in
set_option maxHeartbeats 1600000 in
theorem lives_any (w : World) (h : Base36 w) : Calls Tryz.prog 9 #[] w (LawPost w) := by
  have HB := Lib.hid h
  have P := Lib.hid (parse_b ⟨#[112, 97, 115, 115, 32, 97, 47, 98, 32, 49, 50, 10, 102, 97, 105, 108, 32, 116, 32, 48, 10]⟩ (by decide) w h)
  clear h
  go_enter Tryz.func9, Tryz.ntmps9
  go_wp2_with fail
  refine P.out.mono ?_
  rintro e w1 ⟨v, qs, he, hrow, hm, hb⟩
  rw [show parseF ((⟨#[112, 97, 115, 115, 32, 97, 47, 98, 32, 49, 50, 10, 102, 97, 105, 108, 32, 116, 32, 48, 10]⟩ : ByteArray).data.toList) = _ from ev_parse] at he hm
  obtain rfl := qs_ev hm
  subst he
  have HB1 := Lib.hid hb
  have HA := Lib.hid (TrRow.at hrow)
  obtain ⟨g, cap, hv, hc2⟩ : ∃ g cap, v = .slice (some ⟨g, 0, none⟩) 2 cap ∧ 2 ≤ cap := by
    rcases hrow.2 with ⟨_, h0⟩ | ⟨g, cap, cur, hv, _, _, hcap, _⟩
    · cases h0
    · exact ⟨g, cap, hv, hcap⟩
  subst hv
  obtain ⟨b, off, he, hbl, c0, c1, c2⟩ := QuAt.at3 HA.out (show 0 < [q1, q2].length by decide)
  injection he with he
  injection he with h1 h2
  subst h1 h2
  have HF := Lib.hid (SlAt.first HA.out)
  have d0 : w1.cell? ⟨g, 0, none⟩ = some (.string ⟨#[97, 47, 98]⟩) := c0
  have d1 : w1.cell? ⟨g, 1, none⟩ = some (.int .i64 1) := c1
  have d2 : w1.cell? ⟨g, 2, none⟩ = some (.int .i64 12) := c2
  have h1c : 1 ≤ cap := by omega
  clear hb hrow hm c0 c1 c2 P
  go_wp2_with fail
  refine (show_b _ [q1] w1 HF.out (HB.out.below HB1.out)).mono ?_
  rintro e w2 ⟨s, rfl, hs, hb⟩
  rw [ev_show] at hs
  obtain rfl := str_lit hs
  have HB2 := Lib.hid (HB1.out.trans (hb.mono HB1.out.size))
  have HA2 := Lib.hid (SlAt.below HA.out hb)
  have HF2 := Lib.hid (SlAt.below HF.out hb)
  clear hb hs d0 d1 d2 HA HF HB1
  go_wp2_with fail
  refine (status_any _ [q1, q2] (by decide) (by decide) w2 HA2.out).mono ?_
  rw [ev_stat.1]
  rintro e w3 ⟨rfl, hb⟩
  have HB3 := Lib.hid (HB2.out.trans (hb.mono HB2.out.size))
  have HA3 := Lib.hid (SlAt.below HA2.out hb)
  have HF3 := Lib.hid (SlAt.below HF2.out hb)
  clear hb HA2 HF2 HB2
  go_wp2_with fail
  refine (status_any _ [q1] (by decide) (by decide) w3 HF3.out).mono ?_
  rw [ev_stat.2]
  rintro e w4 ⟨rfl, hb⟩
  have HB4 := Lib.hid (HB3.out.trans (hb.mono HB3.out.size))
  have HA4 := Lib.hid (SlAt.below HA3.out hb)
  clear hb HA3 HF3 HB3
  go_wp2_with fail
  refine (failed_any _ [q1, q2] (by decide) (by decide) w4 HA4.out).mono ?_
  rintro e w5 ⟨fv, ss, rfl, hat, hss, hb⟩
  have hl1 : ss.length = 1 := by
    have := congrArg List.length hss
    rw [List.length_map] at this
    rw [this]; decide +kernel
  obtain ⟨ao, fc, rfl⟩ := hat.form
  rw [hl1]
  have HB5 := Lib.hid (HB4.out.trans (hb.mono HB4.out.size))
  clear hb HA4 HB4 hat hss hl1
  go_wp2_with fail
  go_ret
  exact ⟨rfl, HB5.out⟩
end Go.Proofs.YtngbjnjkcniabaaGreatDoor
