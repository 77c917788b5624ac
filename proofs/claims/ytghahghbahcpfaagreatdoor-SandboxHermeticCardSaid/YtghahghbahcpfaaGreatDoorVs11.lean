/- The walk over sandbox.Restrict. -/
import Derived.Test.YtghahghbahcpfaaGreatDoorSi1
import Derived.Test.YtghahghbahcpfaaGreatDoorVs10
import Derived.Test.YtghahghbahcpfaaGreatDoorVp1
namespace Go.Proofs.YtghahghbahcpfaaGreatDoor
open Go.RowKit

abbrev tSec : TypeId := 110
theorem Tryz.infoSec : (Tryz.prog.info? tSec).map (fun i => (i.zero, i.size, i.bytes)) = some (some (.agg #[.string ⟨#[]⟩, .string ⟨#[]⟩, .int .i64 0, .slice none 0 0, .slice none 0 0]), 5, 88) := by kernel_rfl
theorem Tryz.infoSec' : ∃ i, Tryz.prog.info? tSec = some i ∧ i.zero = some (.agg #[.string ⟨#[]⟩, .string ⟨#[]⟩, .int .i64 0, .slice none 0 0, .slice none 0 0]) ∧ i.size = 5 ∧ i.bytes = 88 := info_parts Tryz.infoSec
theorem ElemK.Row.take {α : Type} {E : ElemK α} {B : Nat → Prop} {w : World} {L : List α} {ao : Option Addr} {n cap : Nat} (h : E.Row B w L (.slice ao n cap)) {k : Nat} (hk : k ≤ L.length) : E.Row B w (L.take k) (.slice ao k cap) := by
  have e : (L.take k).length = k := by rw [List.length_take]; omega
  rcases h with ⟨a, c, e1, rfl⟩ | ⟨bl, off, c, e1, h2, h3, h4, h5⟩
  · have : k = 0 := by simpa using hk
    subst this
    exact .inl ⟨_, _, rfl, rfl⟩
  · injection e1 with e2 e3 e4
    subst e2 e3 e4
    refine .inr ⟨bl, off, cap, by rw [e], h2, h3, by rw [e]; omega, fun q hq => ?_⟩
    rw [e] at hq
    obtain ⟨cs, c1, c2⟩ := h5 q (by omega)
    exact ⟨cs, c1, by rw [List.getElem_take]; exact c2⟩
/-! ### the closures -/
set_option maxRecDepth 100000 in
set_option maxHeartbeats 1600000 in
theorem clo_r1 (c : Nat → Value) (j : JobM) (hJ : JB j) (b0 : Nat) (w0 : World) (hj : JAt w0.heap.size c j w0) (x : FileM) (hx : x.path.size ≤ 10000) (w : World) (hb : Below w0.heap.size w0 w) (hk : w.heap[b0]? = some (.cells (jobC c) tJob (0, 0))) :
    Calls Tryz.prog 45 (#[.agg #[.string x.path, .int .u64 (x.dig : Nat)]] ++ #[.pointer (some ⟨b0, 0, none⟩)]) w fun e w' => e = .returned (.bool (declF j.inputs x.path)) ∧ Below w.heap.size w w' := by
  obtain ⟨io, ic, h24⟩ := hj.inputs.form
  obtain ⟨W1, hW1⟩ : ∃ W1, w.alloc (.cells #[.string x.path, .int .u64 (x.dig : Nat)] tFile (0, 0)) = W1 := ⟨_, rfl⟩
  have hb1 : Below w.heap.size w W1 := by rw [← hW1]; exact (Below.refl _ w).alloc (Nat.le_refl _) _
  have c0 : W1.cell? ⟨w.heap.size, 0, none⟩ = some (.string x.path) := by rw [← hW1, cell_of_blk (hp_new rfl)]; rfl
  have hk1 := (hb1.block b0 (Array.getElem?_eq_some_iff.1 hk).1).trans hk
  have HR := Lib.hid (range_job hk1)
  have hrow := (hj.below (hb.trans (hb1.mono hb.size))).inputs
  rw [h24] at hrow
  have DC := Lib.hid (decl_any c j.inputs io ic x.path _ (by omega) hJ.inputs hJ.inputN h24 W1 hrow)
  have HB := Lib.hid hb1
  have HW := Lib.hid hW1
  clear hb1 hk hk1 hj hJ hrow hW1 h24
  show Calls Tryz.prog 45 #[.agg #[.string x.path, .int .u64 (x.dig : Nat)], .pointer (some ⟨b0, 0, none⟩)] w _
  go_enter Tryz.func45, Tryz.ntmps45
  go_upto_region 1 with fail
  rw [HW.out]
  clear HW
  go_wp2_with (refine wpList_load_mid rfl tJob (.tmp 1) rfl b0 0 rfl (jobL c) _ HR.out Tryz.underlying38 rfl (by kernel_rfl) ?_)
  refine DC.out.mono ?_
  rintro e w2 ⟨rfl, hb2⟩
  have HB2 := Lib.hid (HB.out.trans (hb2.mono HB.out.size))
  clear hb2 DC
  go_wp2_with fail
  go_ret
  exact ⟨rfl, HB2.out⟩
theorem cloE_r1 : ∀ args w, (callFunc 45 args).run Tryz.prog w = .ok (.enter 45 args) w := enters_of Tryz.func45 (by kernel_rfl) rfl
set_option maxRecDepth 100000 in
set_option maxHeartbeats 1600000 in
theorem clo_r2 (c : Nat → Value) (j : JobM) (hJ : JB j) (b0 : Nat) (w0 : World) (hj : JAt w0.heap.size c j w0) (x : OutM) (w : World) (hb : Below w0.heap.size w0 w) (hk : w.heap[b0]? = some (.cells (jobC c) tJob (0, 0))) :
    Calls Tryz.prog 47 (#[.agg #[.string x.name, .int .u64 (x.dig : Nat), .int .i64 x.size]] ++ #[.pointer (some ⟨b0, 0, none⟩)]) w fun e w' => e = .returned (.bool (j.uses.contains x.name)) ∧ Below w.heap.size w w' := by
  obtain ⟨io, ic, h25⟩ := hj.uses.form
  obtain ⟨W1, hW1⟩ : ∃ W1, w.alloc (.cells #[.string x.name, .int .u64 (x.dig : Nat), .int .i64 x.size] tOut (0, 0)) = W1 := ⟨_, rfl⟩
  have hb1 : Below w.heap.size w W1 := by rw [← hW1]; exact (Below.refl _ w).alloc (Nat.le_refl _) _
  have c0 : W1.cell? ⟨w.heap.size, 0, none⟩ = some (.string x.name) := by rw [← hW1, cell_of_blk (hp_new rfl)]; rfl
  have hk1 := (hb1.block b0 (Array.getElem?_eq_some_iff.1 hk).1).trans hk
  have c25 : W1.cell? ⟨b0, 25, none⟩ = some (.slice io j.uses.length ic) := by rw [← h25]; exact cell_of_blk hk1 25
  have hrow := (hj.below (hb.trans (hb1.mono hb.size))).uses
  rw [h25] at hrow
  have CN := Lib.hid (contains_any x.name j.uses _ _ (by have := hJ.uses; omega) W1 hrow)
  have HB := Lib.hid hb1
  have HW := Lib.hid hW1
  generalize j.uses.contains x.name = q at *
  clear hb1 hk hk1 hj hJ hrow hW1 h25
  show Calls Tryz.prog 47 #[.agg #[.string x.name, .int .u64 (x.dig : Nat), .int .i64 x.size], .pointer (some ⟨b0, 0, none⟩)] w _
  go_enter Tryz.func47, Tryz.ntmps47
  go_upto_region 1 with fail
  rw [HW.out]
  clear HW
  go_wp2_with fail
  refine CN.out.mono ?_
  rintro e w2 ⟨rfl, hw2⟩
  have HB2 : Hid (Below w.heap.size w w2) := by unfold Hid; rw [hw2]; exact HB.out
  clear hw2 CN
  go_wp2_with fail
  go_ret
  exact ⟨rfl, HB2.out⟩
theorem cloE_r2 : ∀ args w, (callFunc 47 args).run Tryz.prog w = .ok (.enter 47 args) w := enters_of Tryz.func47 (by kernel_rfl) rfl
end Go.Proofs.YtghahghbahcpfaaGreatDoor
/- The walk over sandbox.Restrict. -/
namespace Go.Proofs.YtghahghbahcpfaaGreatDoor
open Go.RowKit

abbrev view0C : Array Value := #[.slice none 0 0, .slice none 0 0, .slice none 0 0, .slice none 0 0, .slice none 0 0, .slice none 0 0, .slice none 0 0, .slice none 0 0, .int .i64 0]
theorem ElemK.Row.lecap {α : Type} {E : ElemK α} {B : Nat → Prop} {w : World} {L : List α} {ao : Option Addr} {n cap : Nat} (h : E.Row B w L (.slice ao n cap)) : n ≤ cap := by
  rcases h with ⟨a, c, e1, _⟩ | ⟨bl, off, c, e1, _, _, h4, _⟩
  · injection e1 with _ e3 _
    omega
  · injection e1 with _ e3 e4
    omega
/-- a view's cells, one by one -/
def dV (a0 a1 a2 a3 a4 a5 a6 a7 a8 : Value) : Nat → Value
  | 39 => a0
  | 40 => a1
  | 41 => a2
  | 42 => a3
  | 43 => a4
  | 44 => a5
  | 45 => a6
  | 46 => a7
  | 47 => a8
  | _ => undef
def RePost (j : JobM) (v : ViewM) (w : World) (e : Ending) (w' : World) : Prop := ∃ d, e = .returned (viewA d) ∧ VAt w'.heap.size d (restrictF (declF j.inputs) j v) w' ∧ Below w.heap.size w w'
def RsRel (p : SecM → Bool) (L : List SecM) (w4 : World) (f : Nat) (t5 t22 : Value) (wr : World) : Prop :=
  ∃ i : Nat, t22 = .int .i64 (i : Nat) ∧ i ≤ L.length ∧ f = L.length - i ∧ ESec.Own tSec w4.heap.size (fun b => w4.heap.size ≤ b) wr ((L.take i).filter p) t5 ∧ Below w4.heap.size w4 wr
set_option maxRecDepth 100000 in
set_option maxHeartbeats 6400000 in
theorem restrict_any (c : Nat → Value) (j : JobM) (v : ViewM) (hJ : JB j) (hB : VB v) (hSB : ∀ s ∈ v.secs, s.refs.length ≤ 1000000 ∧ s.envs.length ≤ 1000000) (w : World) (hv : VAt w.heap.size c v w) (hj : JAt w.heap.size c j w) :
    Calls Tryz.prog 17 #[jobA c, viewA c] w (RePost j v w) := by
  obtain ⟨w1, hw1⟩ : ∃ w1, w.alloc (.cells (jobC c) tJob (0, 0)) = w1 := ⟨_, rfl⟩
  obtain ⟨w2, hw2⟩ : ∃ w2, w1.alloc (.cells (viewC c) tView (0, 0)) = w2 := ⟨_, rfl⟩
  obtain ⟨w3, hw3⟩ : ∃ w3, w2.alloc (.cells view0C tView (0, 0)) = w3 := ⟨_, rfl⟩
  have hs1 : w1.heap.size = w.heap.size + 1 := by rw [← hw1]; simp
  have hs2 : w2.heap.size = w.heap.size + 1 + 1 := by rw [← hw2]; simp [hs1]
  have hk1 : w3.heap[w.heap.size]? = some (.cells (jobC c) tJob (0, 0)) := by rw [← hw3]; exact (hp_old (by omega)).trans (by rw [← hw2]; exact (hp_old (by omega)).trans (by rw [← hw1]; exact hp_new rfl))
  have hk2 : w3.heap[w.heap.size + 1]? = some (.cells (viewC c) tView (0, 0)) := by rw [← hw3]; exact (hp_old (by omega)).trans (by rw [← hw2]; exact hp_new (by omega))
  have hk3 : w3.heap[w.heap.size + 1 + 1]? = some (.cells view0C tView (0, 0)) := by rw [← hw3]; exact hp_new (by omega)
  have hb3 : Below w.heap.size w w3 := by rw [← hw3, ← hw2, ← hw1]; exact (((Below.refl _ w).alloc (Nat.le_refl _) _).alloc (by simp) _).alloc (by simp; omega) _
  have HK0 := Lib.hid hk1
  have HKV : Hid (w3.heap[w.heap.size + 1]? = some (.cells #[c 39, c 40, c 41, c 42, c 43, c 44, c 45, c 46, c 47] tView (0, 0))) := hk2
  have HKR := Lib.hid hk3
  have HB := Lib.hid hb3
  have HW1 := Lib.hid hw1
  have HW2 := Lib.hid hw2
  have HW3 := Lib.hid hw3
  have ZZ : w.heap.size + 1 + 1 < w3.heap.size := (Array.getElem?_eq_some_iff.1 hk3).1
  have HV := Lib.hid hv
  have HJA := Lib.hid hj
  have HJB := Lib.hid hJ
  have HBV := Lib.hid hB
  obtain ⟨fo, fc, h39⟩ := hv.files.form
  obtain ⟨ro, rc, h40⟩ := hv.arts.form
  obtain ⟨so, sc, h41⟩ := hv.secs.form
  obtain ⟨co, cc, h42⟩ := hv.caches.form
  obtain ⟨ko, kc, h43⟩ := hv.keys.form
  obtain ⟨tq, tc, h44⟩ := hv.tests.form
  obtain ⟨mio, mic, h45⟩ := hv.times.form
  obtain ⟨gq, gc, h46⟩ := hv.ign.form
  obtain ⟨qo, qc, h28⟩ := hj.secrets.form
  have H39 := Lib.hid h39
  have H40 := Lib.hid h40
  have H41 := Lib.hid h41
  have H42 := Lib.hid h42
  have H43 := Lib.hid h43
  have H44 := Lib.hid h44
  have H45 := Lib.hid h45
  have H46 := Lib.hid h46
  have H28 := Lib.hid h28
  have H47 := Lib.hid hv.att
  clear hv hj hJ hB hk1 hk2 hk3 hb3 hw1 hw2 hw3 hs1 hs2 h39 h40 h41 h42 h43 h44 h45 h46 h28
  go_enter Tryz.func17, Tryz.ntmps17
  go_upto_region 1 with fail
  rw [HW1.out, HW2.out, HW3.out]
  clear HW1 HW2 HW3
  have c39 : w3.cell? ⟨w.heap.size + 1, 0, none⟩ = some (.slice fo v.files.length fc) := by rw [← H39.out]; exact cell_of_blk HKV.out 0
  have CT := Lib.hid (chosen_f 45 #[.pointer (some ⟨w.heap.size, 0, none⟩)] (fun f => declF j.inputs f.path) v.files (.slice fo v.files.length fc) _ HBV.out.files w3 (by rw [← H39.out]; exact (HV.out.below HB.out).files) (fun k hk cs W hW hR => by
    have hcs : cs = [.string v.files[k].path, .int .u64 (v.files[k].dig : Nat)] := hR
    subst hcs
    exact clo_r1 c j HJB.out w.heap.size w HJA.out v.files[k] (HBV.out.fileN _ (List.getElem_mem hk)).1 W (HB.out.trans (hW.mono HB.out.size)) ((hW.block _ (by omega)).trans HK0.out)) cloE_r1)
  go_wp2_with fail
  refine CT.out.mono ?_
  rintro e wa0 ⟨u0, rfl, hu, hb⟩
  obtain ⟨uo0, uc0, rfl⟩ := hu.form
  obtain ⟨n0, hn⟩ : ∃ n, (v.files.filter fun f => declF j.inputs f.path).length = n := ⟨_, rfl⟩
  rw [hn] at hu
  rw [hn]
  have hz3 := HB.out.size
  have KV := (hb.block _ (by omega)).trans HKV.out
  have cv0 : wa0.cell? ⟨w.heap.size + 1, 0, none⟩ = some (c 39) := cell_of_blk KV 0
  have fv := free_of_blk KV 0
  have HWR := Lib.hid (wrote_setCell KV 0 (.slice uo0 n0 uc0))
  replace HK0 := Lib.hid ((hb.block _ (by omega)).trans HK0.out)
  replace HKR := Lib.hid ((hb.block _ (by omega)).trans HKR.out)
  have R0 : Hid (EFile.Row (fun b => w.heap.size + 1 + 1 < b) wa0 ((v.files.filter fun f => declF j.inputs f.path)) (.slice uo0 n0 uc0)) := hu.row (fun _ h => h.elim) (fun b hb => by omega)
  have hba : Hid (Below w.heap.size w wa0) := HB.out.trans (hb.mono HB.out.size)
  replace ZZ : w.heap.size + 1 + 1 < wa0.heap.size := Nat.lt_of_lt_of_le ZZ hb.size
  clear hu hb HKV KV hn HB hz3 CT
  go_upto_region 2 with fail
  obtain ⟨wb0, hwb⟩ : ∃ W, wa0.setCell ⟨w.heap.size + 1, 0, none⟩ (.slice uo0 n0 uc0) = W := ⟨_, rfl⟩
  rw [hwb] at HWR
  rw [hwb]
  clear hwb cv0 fv
  have HKV : Hid (wb0.heap[w.heap.size + 1]? = some (.cells #[.slice uo0 n0 uc0, c 40, c 41, c 42, c 43, c 44, c 45, c 46, c 47] tView (0, 0))) := HWR.out.at_
  replace HK0 := Lib.hid ((HWR.out.block _ (by omega)).trans HK0.out)
  replace HKR := Lib.hid ((HWR.out.block _ (by omega)).trans HKR.out)
  replace R0 := Lib.hid (R0.out.keep (Nat.le_of_eq HWR.out.size.symm) fun b hb _ => HWR.out.block b (by omega))
  have HB : Hid (Below w.heap.size w wb0) := hba.out.trans (HWR.out.below (by omega))
  replace ZZ : w.heap.size + 1 + 1 < wb0.heap.size := by rw [HWR.out.size]; exact ZZ
  clear HWR hba
  clear c39
  have c40 : wb0.cell? ⟨w.heap.size + 1, 1, none⟩ = some (.slice ro v.arts.length rc) := by rw [← H40.out]; exact cell_of_blk HKV.out 1
  have CT := Lib.hid (chosen_o 47 #[.pointer (some ⟨w.heap.size, 0, none⟩)] (fun o => j.uses.contains o.name) v.arts (.slice ro v.arts.length rc) _ HBV.out.arts wb0 (by rw [← H40.out]; exact (HV.out.below HB.out).arts) (fun k hk cs W hW hR => by
    have hcs : cs = [.string v.arts[k].name, .int .u64 (v.arts[k].dig : Nat), .int .i64 v.arts[k].size] := hR
    subst hcs
    exact clo_r2 c j HJB.out w.heap.size w HJA.out v.arts[k] W (HB.out.trans (hW.mono HB.out.size)) ((hW.block _ (by omega)).trans HK0.out)) cloE_r2)
  go_wp2_with fail
  refine CT.out.mono ?_
  rintro e wa1 ⟨u1, rfl, hu, hb⟩
  obtain ⟨uo1, uc1, rfl⟩ := hu.form
  obtain ⟨n1, hn⟩ : ∃ n, (v.arts.filter fun o => j.uses.contains o.name).length = n := ⟨_, rfl⟩
  rw [hn] at hu
  rw [hn]
  have hz3 := HB.out.size
  have KV := (hb.block _ (by omega)).trans HKV.out
  have cv1 : wa1.cell? ⟨w.heap.size + 1, 1, none⟩ = some (c 40) := cell_of_blk KV 1
  have fv := free_of_blk KV 1
  have HWR := Lib.hid (wrote_setCell KV 1 (.slice uo1 n1 uc1))
  replace HK0 := Lib.hid ((hb.block _ (by omega)).trans HK0.out)
  replace HKR := Lib.hid ((hb.block _ (by omega)).trans HKR.out)
  replace R0 := Lib.hid (R0.out.below hb)
  have R1 : Hid (EOut.Row (fun b => w.heap.size + 1 + 1 < b) wa1 ((v.arts.filter fun o => j.uses.contains o.name)) (.slice uo1 n1 uc1)) := hu.row (fun _ h => h.elim) (fun b hb => by omega)
  have hba : Hid (Below w.heap.size w wa1) := HB.out.trans (hb.mono HB.out.size)
  replace ZZ : w.heap.size + 1 + 1 < wa1.heap.size := Nat.lt_of_lt_of_le ZZ hb.size
  clear hu hb HKV KV hn HB hz3 CT
  go_upto_region 3 with fail
  obtain ⟨wb1, hwb⟩ : ∃ W, wa1.setCell ⟨w.heap.size + 1, 1, none⟩ (.slice uo1 n1 uc1) = W := ⟨_, rfl⟩
  rw [hwb] at HWR
  rw [hwb]
  clear hwb cv1 fv
  have HKV : Hid (wb1.heap[w.heap.size + 1]? = some (.cells #[.slice uo0 n0 uc0, .slice uo1 n1 uc1, c 41, c 42, c 43, c 44, c 45, c 46, c 47] tView (0, 0))) := HWR.out.at_
  replace HK0 := Lib.hid ((HWR.out.block _ (by omega)).trans HK0.out)
  replace HKR := Lib.hid ((HWR.out.block _ (by omega)).trans HKR.out)
  replace R0 := Lib.hid (R0.out.keep (Nat.le_of_eq HWR.out.size.symm) fun b hb _ => HWR.out.block b (by omega))
  replace R1 := Lib.hid (R1.out.keep (Nat.le_of_eq HWR.out.size.symm) fun b hb _ => HWR.out.block b (by omega))
  have HB : Hid (Below w.heap.size w wb1) := hba.out.trans (HWR.out.below (by omega))
  replace ZZ : w.heap.size + 1 + 1 < wb1.heap.size := by rw [HWR.out.size]; exact ZZ
  clear HWR hba
  clear c40
  have c41 : wb1.cell? ⟨w.heap.size + 1, 2, none⟩ = some (.slice so v.secs.length sc) := by rw [← H41.out]; exact cell_of_blk HKV.out 2
  have hsr := (HV.out.below HB.out).secs
  rw [H41.out] at hsr
  have HSR := Lib.hid hsr
  have hsq := (HJA.out.below HB.out).secrets
  rw [H28.out] at hsq
  have HSQ := Lib.hid hsq
  have hnq := HJB.out.secrets
  have hns := HBV.out.secs
  have HSN : Hid (∀ s ∈ v.secs, s.refs.length ≤ 1000000 ∧ s.envs.length ≤ 1000000) := hSB
  obtain ⟨iV, hiV, hzV, hnV, hyV⟩ := Tryz.infoSec'
  have HI := Lib.hid hiV
  clear hsr hsq hSB hiV
  go_wp2_with fail
  go_loopg [5, 22] v.secs.length (RsRel (fun s => j.secrets.contains s.name) v.secs wb1)
  case atStart => exact ⟨0, rfl, Nat.zero_le _, rfl, ElemK.Own.nil, Below.refl _ _⟩
  case round =>
    obtain ⟨i, rfl, hi, rfl, hown, hb4⟩ := hrel
    by_cases hlt : i < v.secs.length
    · obtain ⟨bl, off, cs, rfl, hBb, hbl, hc, hR⟩ := (HSR.out.below hb4).at hlt
      have HO := Lib.hid hown
      have HB4 := Lib.hid hb4
      have hsn := HSN.out _ (List.getElem_mem hlt)
      have HF := Lib.hid (filter_step (fun s : SecM => j.secrets.contains s.name) v.secs hlt)
      have hfl := filter_take_len (fun s : SecM => j.secrets.contains s.name) v.secs i
      have hii : (i : Int) < (v.secs.length : Int) := by omega
      generalize v.secs[i] = y at *
      obtain ⟨snm, stx, slv, rs, es⟩ := y
      obtain ⟨rv, ev, hcs, hrf, hev⟩ := hR
      dsimp only at hcs hrf hev hsn HF
      obtain ⟨po, pc, rfl⟩ := hown.form
      obtain ⟨ero, erc, rfl⟩ := hrf.form
      obtain ⟨eeo, eec, rfl⟩ := hev.form
      subst hcs
      obtain ⟨rn, hrn⟩ : ∃ n, rs.length = n := ⟨_, rfl⟩
      obtain ⟨en, hen⟩ : ∃ n, es.length = n := ⟨_, rfl⟩
      rw [hrn] at hrf hc
      rw [hen] at hev hc
      have HRN := Lib.hid hrn
      have HEN := Lib.hid hen
      have hz4 := hb4.size
      have e0 : wr.cell? ⟨bl, off + i * 5 + 0, none⟩ = _ := hc 0 _ rfl
      have e1 : wr.cell? ⟨bl, off + i * 5 + 1, none⟩ = _ := hc 1 _ rfl
      have e2 : wr.cell? ⟨bl, off + i * 5 + 2, none⟩ = _ := hc 2 _ rfl
      have e3 : wr.cell? ⟨bl, off + i * 5 + 3, none⟩ = _ := hc 3 _ rfl
      have e4 : wr.cell? ⟨bl, off + i * 5 + 4, none⟩ = _ := hc 4 _ rfl
      rw [Nat.add_zero] at e0
      generalize hA : (v.secs.take i).filter (fun s : SecM => j.secrets.contains s.name) = A at *
      have HRF := Lib.hid hrf
      have HEV := Lib.hid hev
      have HSL : Hid (rs.length ≤ 1000000 ∧ es.length ≤ 1000000) := hsn
      obtain ⟨b, hbq⟩ : ∃ b, j.secrets.contains snm = b := ⟨_, rfl⟩
      rw [hbq] at HF
      have HBQ := Lib.hid hbq
      clear hA hc hrf hev hrn hen hsn hown hb4 hbq c41
      as_aux_lemma =>
      go_wp2_with (refine wpList_store_row rfl tSec _ _ rfl wr.heap.size rfl tSec _ (hp_new rfl) (.agg #[.string snm, .string stx, .int .i64 slv, .slice ero rn erc, .slice eeo en eec]) rfl (by kernel_rfl) rfl rfl ?_)
      intro w6 hw6
      have hk6 : w6.heap[wr.heap.size]? = some (.cells #[.string snm, .string stx, .int .i64 slv, .slice ero rn erc, .slice eeo en eec] tSec (0, 0)) := hw6.at_
      have HB6 : Hid (Below wr.heap.size wr w6) := ((Below.refl _ wr).alloc (Nat.le_refl _) _).trans (hw6.below (Nat.le_refl _))
      have zs6 : wr.heap.size < w6.heap.size := (Array.getElem?_eq_some_iff.1 hk6).1
      have HB46 : Hid (Below wb1.heap.size wb1 w6) := HB4.out.trans (HB6.out.mono hz4)
      have HK6 := Lib.hid hk6
      have HO6 := Lib.hid (HO.out.lt.below HB6.out)
      have HLO : Hid (∀ q, (Value.slice po A.length pc).ownBlock = some q → q < wr.heap.size) := fun q e => (HO.out.low q e).2
      have c28 : w6.cell? ⟨w.heap.size, 28, none⟩ = some (.slice qo j.secrets.length qc) := by rw [← H28.out]; exact cell_of_blk ((HB46.out.block _ (by omega)).trans HK0.out) 28
      have s0 : w6.cell? ⟨wr.heap.size, 0, none⟩ = some (.string snm) := cell_of_blk hk6 0
      have CN := Lib.hid (contains_any snm j.secrets _ _ (by omega) w6 (HSQ.out.below HB46.out))
      rw [HBQ.out] at CN
      have HRF6 := Lib.hid (HRF.out.below HB6.out)
      have HEV6 := Lib.hid (HEV.out.below HB6.out)
      obtain ⟨sb, hsb⟩ : ∃ b, wr.heap.size = b := ⟨_, rfl⟩
      rw [hsb] at HK6 zs6 HLO s0 HO6
      rw [hsb]
      have HSB : Hid (wr.heap.size = sb) := hsb
      have hzsb : wb1.heap.size ≤ sb := by omega
      clear hw6 hk6 HB4 HB6 e0 e1 e2 e3 e4 hsb HRF HEV HO hbl
      go_wp2_with fail
      refine CN.out.mono ?_
      rintro e w7 ⟨rfl, hw7⟩
      rw [hw7]
      clear hw7 w7 CN c28
      cases b with
      | false =>
        rw [if_neg (by simp)] at HF
        go_wp2_with fail
        go_roundg (v.secs.length - (i + 1))
        case measure => omega
        case rel => exact ⟨i + 1, by go_num, by omega, rfl, by rw [HF.out]; exact HO6.out.mono fun b h => h.1, HB46.out⟩
      | true =>
        rw [if_pos rfl] at HF
        have HS8 : Hid (∀ W : World, Below w6.heap.size w6 W → W.cell? ⟨sb, 3, none⟩ = some (.slice ero rn erc) ∧ W.cell? ⟨sb, 4, none⟩ = some (.slice eeo en eec)) := fun W hb =>
          have q := (hb.block _ zs6).trans HK6.out
          ⟨cell_of_blk q 3, cell_of_blk q 4⟩
        have HDR : Hid (Below w6.heap.size w6 w6.drew) := (Below.refl _ _).drew
        have CR := Lib.hid (fun W (hb : Below w6.heap.size w6 W) => sclone_any rs _ _ HSL.out.1 W (HRF6.out.below hb))
        have CE := Lib.hid (fun W (hb : Below w6.heap.size w6 W) => sclone_any es _ _ HSL.out.2 W (HEV6.out.below hb))
        clear HRF6 HEV6 s0
        go_upto_region 8 with fail
        refine wp_region_Z (S := fun W : World => W.cell? ⟨sb, 3, none⟩ = some (.slice ero rn erc) ∧ W.cell? ⟨sb, 4, none⟩ = some (.slice eeo en eec)) 7 (by kernel_rfl) (HS8.out _ HDR.out) (fun hHeld => ?_)
        refine ztk 0 ?_
        try simp only [Act.put, zA, zB, zC]
        refine ztk 1 ?_
        try simp only [Act.put, zA, zB, zC]
        refine ztk 3 ?_
        try simp only [Act.put, zA, zB, zC]
        refine ztk 4 ?_
        try simp only [Act.put, zA, zB, zC]
        refine wpAnyZ_oneL (i := 2) (by kernel_rfl) rfl (fun K hK => ?_)
        go_simp
        go_at_call 49
        refine (CR.out _ HDR.out).mono ?_
        rintro e w7 ⟨u1, rfl, hr1, hb7⟩
        obtain ⟨xo, xc, rfl⟩ := hr1.form
        rw [HRN.out] at hr1
        rw [HRN.out]
        have HB7 := Lib.hid (HDR.out.trans (hb7.mono HDR.out.size))
        have HR1 := Lib.hid hr1
        clear hb7 hr1
        refine hK.out _ _ (fun _ => HS8.out _ HB7.out) (fun hHeld => ?_)
        replace hHeld := hHeld (by decide)
        clear hK K
        try simp only [Act.put, zA, zB, zC]
        refine ztk 6 ?_
        try simp only [Act.put, zA, zB, zC]
        refine wpAnyZ_oneL (i := 5) (by kernel_rfl) rfl (fun K hK => ?_)
        go_simp
        go_at_call 49
        refine (CE.out _ HB7.out).mono ?_
        rintro e w8 ⟨u2, rfl, hr2, hb8⟩
        obtain ⟨yo, yc, rfl⟩ := hr2.form
        rw [HEN.out] at hr2
        rw [HEN.out]
        have HB8 := Lib.hid (HB7.out.trans (hb8.mono HB7.out.size))
        replace HR1 := Lib.hid (HR1.out.below hb8)
        have HR2 := Lib.hid hr2
        have HK8 := Lib.hid ((HB8.out.block _ zs6).trans HK6.out)
        have c83 : w8.cell? ⟨sb, 3, none⟩ = some (.slice ero rn erc) := cell_of_blk HK8.out 3
        have f83 := free_of_blk HK8.out 3
        have HW9 := Lib.hid (wrote_setCell HK8.out 3 (.slice xo rn xc))
        clear hb8 hr2
        refine hK.out _ _ (fun _ => HS8.out _ HB8.out) (fun hHeld => ?_)
        replace hHeld := hHeld (by decide)
        clear hK K
        try simp only [Act.put, zA, zB, zC]
        refine wpAnyZ_oneL (i := 7) (by kernel_rfl) rfl (fun K hK => ?_)
        go_simp
        obtain ⟨w9, hw9⟩ : ∃ W, w8.setCell ⟨sb, 3, none⟩ (.slice xo rn xc) = W := ⟨_, rfl⟩
        rw [hw9] at HW9
        rw [hw9]
        have HK9 : Hid (w9.heap[sb]? = some (.cells #[.string snm, .string stx, .int .i64 slv, .slice xo rn xc, .slice eeo en eec] tSec (0, 0))) := HW9.out.at_
        have c94 : w9.cell? ⟨sb, 4, none⟩ = some (.slice eeo en eec) := cell_of_blk HK9.out 4
        have f94 := free_of_blk HK9.out 4
        have HW10 := Lib.hid (wrote_setCell HK9.out 4 (.slice yo en yc))
        clear hw9 c83 f83
        refine hK.out _ _ (fun h => absurd h (by decide)) (fun _ => ?_)
        clear hK K
        try simp only [Act.put]
        refine wpAnyZ_oneL (i := 8) (by kernel_rfl) rfl (fun K hK => ?_)
        go_simp
        refine hK.out _ _ (fun h => absurd h (by decide)) (fun _ => ?_)
        clear hK K
        try simp only [Act.put, zA, zB, zC]
        refine wpAnyZ_oneL (i := 9) (by kernel_rfl) rfl (fun K hK => ?_)
        go_simp
        obtain ⟨wx, hwx⟩ : ∃ W, w9.setCell ⟨sb, 4, none⟩ (.slice yo en yc) = W := ⟨_, rfl⟩
        rw [hwx] at HW10
        rw [hwx]
        have HKX : Hid (wx.heap[sb]? = some (.cells #[.string snm, .string stx, .int .i64 slv, .slice xo rn xc, .slice yo en yc] tSec (0, 0))) := HW10.out.at_
        clear hwx c94 f94
        refine hK.out _ _ (fun h => absurd h (by decide)) (fun _ => ?_)
        clear hK K
        try simp only [Act.put]
        refine wpAnyZ_done (by kernel_rfl) ?_ _
        clear hHeld
        have hz8 := HB8.out.size
        have hz6 := HB46.out.size
        have HRR1 : Hid (EStr.Row (fun b => w6.heap.size ≤ b) wx rs (.slice xo rn xc)) := ((HR1.out.row (B' := fun b => w6.heap.size ≤ b) (fun _ h => h.elim) (fun b h => h)).keep (Nat.le_of_eq HW9.out.size.symm) fun b hb _ => HW9.out.block b (by omega)).keep (Nat.le_of_eq HW10.out.size.symm) fun b hb _ => HW10.out.block b (by omega)
        have HRR2 : Hid (EStr.Row (fun b => w6.heap.size ≤ b) wx es (.slice yo en yc)) := ((HR2.out.row (B' := fun b => w6.heap.size ≤ b) (fun _ h => h.elim) (fun b h => Nat.le_trans HB7.out.size h)).keep (Nat.le_of_eq HW9.out.size.symm) fun b hb _ => HW9.out.block b (by omega)).keep (Nat.le_of_eq HW10.out.size.symm) fun b hb _ => HW10.out.block b (by omega)
        have hns : (Value.slice po A.length pc).ownBlock ≠ some sb := fun e => by have := HLO.out _ e; omega
        have HOX : Hid (ESec.Own tSec wb1.heap.size (fun b => wb1.heap.size ≤ b) wx A (.slice po A.length pc)) := (((HO6.out.below HB8.out).wrote HW9.out hns (fun c h => by omega)).wrote HW10.out hns (fun c h => by omega)).mono fun b h => h.1
        have HBX : Hid (Below wb1.heap.size wb1 wx) := HB46.out.trans ((HB8.out.mono hz6).trans ((HW9.out.below hzsb).trans (HW10.out.below hzsb)))
        have x0 : wx.cell? ⟨sb, 0, none⟩ = some (.string snm) := cell_of_blk HKX.out 0
        have x1 : wx.cell? ⟨sb, 1, none⟩ = some (.string stx) := cell_of_blk HKX.out 1
        have x2 : wx.cell? ⟨sb, 2, none⟩ = some (.int .i64 slv) := cell_of_blk HKX.out 2
        have x3 : wx.cell? ⟨sb, 3, none⟩ = some (.slice xo rn xc) := cell_of_blk HKX.out 3
        have x4 : wx.cell? ⟨sb, 4, none⟩ = some (.slice yo en yc) := cell_of_blk HKX.out 4
        obtain ⟨wa, hwa⟩ : ∃ wa, wx.alloc (.cells #[.string snm, .string stx, .int .i64 slv, .slice xo rn xc, .slice yo en yc] tSec) = wa := ⟨_, rfl⟩
        have hka : wa.heap[wx.heap.size]? = some (.cells #[.string snm, .string stx, .int .i64 slv, .slice xo rn xc, .slice yo en yc] tSec (0, 0)) := by rw [← hwa]; exact hp_new rfl
        have HBA : Hid (Below wx.heap.size wx wa) := by unfold Hid; rw [← hwa]; exact (Below.refl _ _).alloc (Nat.le_refl _) _
        have HWA := Lib.hid hwa
        have HOA := Lib.hid (HOX.out.below HBA.out)
        have hza := HBA.out.size
        have hzx := HBX.out.size
        have HRE : Hid (ESec.R (fun b => wb1.heap.size ≤ b ∧ (Value.slice po A.length pc).ownBlock ≠ some b) wa ⟨snm, stx, slv, rs, es⟩ [.string snm, .string stx, .int .i64 slv, .slice xo rn xc, .slice yo en yc]) :=
          ⟨_, _, rfl, (HRR1.out.below HBA.out).mono fun b hb => ⟨by omega, fun e => by have := HLO.out _ e; omega⟩, (HRR2.out.below HBA.out).mono fun b hb => ⟨by omega, fun e => by have := HLO.out _ e; omega⟩⟩
        clear hwa HW9 HW10 HR1 HR2 HRR1 HRR2 HOX HB8 HB7 HK8 HK9 HDR HS8 CR CE HK6 HO6 HB46 hns
        go_wp2_with (first
          | (refine wpList_build1 rfl 41 tSec _ rfl #[.string snm, .string stx, .int .i64 slv, .slice xo rn xc, .slice yo en yc] iV _ Tryz.underlying41 HI.out hzV 5 hnV (by decide) (by decide) rfl rfl ?_)
          | (at_builtin; rw [HWA.out]; refine wpList_own_push (E := ESec) rfl _ _ 41 rfl wb1.heap.size tSec iV _ 88 Tryz.underlying41 HI.out hzV hnV hyV rfl A (.slice po A.length pc) rfl HOA.out ⟨snm, stx, slv, rs, es⟩ [.string snm, .string stx, .int .i64 slv, .slice xo rn xc, .slice yo en yc] HRE.out wx.heap.size (0, 0) hka rfl (by unfold maxLen; omega) (by omega) (by omega) ?_))
        intro v6 w8' hown hgrow hpu
        obtain ⟨g6, p6, hv6⟩ := hpu.form
        subst hv6
        have HO9 := Lib.hid hown
        have HB9 : Hid (Below wb1.heap.size wb1 w8') := (HBX.out.trans (HBA.out.mono HBX.out.size)).trans (below_grown hgrow (by omega) (fun q e => (HOA.out.low q e).1))
        clear hown hgrow hpu hka HOA HWA HRE HBA
        go_wp2_with fail
        go_roundg (v.secs.length - (i + 1))
        case measure => omega
        case rel => exact ⟨i + 1, by go_num, by omega, rfl, by rw [HF.out]; exact HO9.out, HB9.out⟩
    · have hii : ¬ (i : Int) < (v.secs.length : Int) := by omega
      have he : i = v.secs.length := by omega
      have HN : Hid ((v.secs.take i).filter (fun s : SecM => j.secrets.contains s.name) = v.secs.filter fun s => j.secrets.contains s.name) := by unfold Hid; rw [he, List.take_length]
      rw [HN.out] at hown
      clear he HN HSR HSQ HSN HI hzV hnV hyV hns hnq c41
      as_aux_lemma =>
      obtain ⟨n2, hn2⟩ : ∃ n, (v.secs.filter fun s => j.secrets.contains s.name).length = n := ⟨_, rfl⟩
      obtain ⟨uo2, uc2, rfl⟩ := hown.form
      rw [hn2] at hown
      rw [hn2]
      clear hn2
      have hz3 := HB.out.size
      have KV := (hb4.block _ (by omega)).trans HKV.out
      have cv2 : wr.cell? ⟨w.heap.size + 1, 2, none⟩ = some (c 41) := cell_of_blk KV 2
      have fv := free_of_blk KV 2
      have R2 : Hid (ESec.Row (fun b => w.heap.size + 1 + 1 < b) wr (v.secs.filter fun s => j.secrets.contains s.name) (.slice uo2 n2 uc2)) := hown.row (fun b h => by omega) (fun b h => by omega)
      have HWR := Lib.hid (wrote_setCell KV 2 (.slice uo2 n2 uc2))
      replace HK0 := Lib.hid ((hb4.block _ (by omega)).trans HK0.out)
      replace HKR := Lib.hid ((hb4.block _ (by omega)).trans HKR.out)
      replace R0 := Lib.hid (R0.out.below hb4)
      replace R1 := Lib.hid (R1.out.below hb4)
      have hba : Hid (Below w.heap.size w wr) := HB.out.trans (hb4.mono HB.out.size)
      replace ZZ : w.heap.size + 1 + 1 < wr.heap.size := Nat.lt_of_lt_of_le ZZ hb4.size
      clear hown hb4 KV HB HKV
      go_upto_region 12 with fail
      obtain ⟨wb2, hwb⟩ : ∃ W, wr.setCell ⟨w.heap.size + 1, 2, none⟩ (.slice uo2 n2 uc2) = W := ⟨_, rfl⟩
      rw [hwb] at HWR
      rw [hwb]
      clear hwb cv2 fv
      have HKV : Hid (wb2.heap[w.heap.size + 1]? = some (.cells #[.slice uo0 n0 uc0, .slice uo1 n1 uc1, .slice uo2 n2 uc2, c 42, c 43, c 44, c 45, c 46, c 47] tView (0, 0))) := HWR.out.at_
      replace HK0 := Lib.hid ((HWR.out.block _ (by omega)).trans HK0.out)
      replace HKR := Lib.hid ((HWR.out.block _ (by omega)).trans HKR.out)
      replace R0 := Lib.hid (R0.out.keep (Nat.le_of_eq HWR.out.size.symm) fun b hb _ => HWR.out.block b (by omega))
      replace R1 := Lib.hid (R1.out.keep (Nat.le_of_eq HWR.out.size.symm) fun b hb _ => HWR.out.block b (by omega))
      replace R2 := Lib.hid (R2.out.keep (Nat.le_of_eq HWR.out.size.symm) fun b hb _ => HWR.out.block b (by omega))
      have HB : Hid (Below w.heap.size w wb2) := hba.out.trans (HWR.out.below (by omega))
      replace ZZ : w.heap.size + 1 + 1 < wb2.heap.size := by rw [HWR.out.size]; exact ZZ
      clear HWR hba
      obtain ⟨mo, mc, h27⟩ := HJA.out.caches
      have c27 : wb2.cell? ⟨w.heap.size, 27, none⟩ = some (.slice mo j.ncach mc) := by rw [← h27]; exact cell_of_blk HK0.out 27
      have c42 : wb2.cell? ⟨w.heap.size + 1, 3, none⟩ = some (.slice co v.caches.length cc) := by rw [← H42.out]; exact cell_of_blk HKV.out 3
      have hcap := ElemK.Row.lecap (E := EEnt) (by rw [← H42.out]; exact (HV.out.below HB.out).caches : EEnt.Row (fun b => b < w.heap.size) wb2 v.caches (.slice co v.caches.length cc))
      obtain ⟨k3, hk3⟩ : ∃ k : Nat, min j.ncach v.caches.length = k := ⟨_, rfl⟩
      have hmin : min (j.ncach : Int) (v.caches.length : Int) = (k3 : Int) := by omega
      have hle : k3 ≤ v.caches.length := by omega
      have HTK3 : Hid (v.caches.take j.ncach = v.caches.take k3) := by
        unfold Hid
        rw [List.take_eq_take_iff]
        omega
      clear hk3
      have CT := Lib.hid (eclone_any (v.caches.take k3) (.slice co k3 cc) _ (by have := HBV.out.caches; rw [List.length_take]; omega) wb2 (ElemK.Row.take (by rw [← H42.out]; exact (HV.out.below HB.out).caches) hle))
      go_wp2_with fail
      refine CT.out.mono ?_
      rintro e wa3 ⟨u3, rfl, hu, hb⟩
      obtain ⟨uo3, uc3, rfl⟩ := hu.form
      obtain ⟨n3, hn⟩ : ∃ n, (v.caches.take k3).length = n := ⟨_, rfl⟩
      rw [hn] at hu
      rw [hn]
      have hz3 := HB.out.size
      have KV := (hb.block _ (by omega)).trans HKV.out
      have cv3 : wa3.cell? ⟨w.heap.size + 1, 3, none⟩ = some (c 42) := cell_of_blk KV 3
      have fv := free_of_blk KV 3
      have HWR := Lib.hid (wrote_setCell KV 3 (.slice uo3 n3 uc3))
      replace HK0 := Lib.hid ((hb.block _ (by omega)).trans HK0.out)
      replace HKR := Lib.hid ((hb.block _ (by omega)).trans HKR.out)
      replace R0 := Lib.hid (R0.out.below hb)
      replace R1 := Lib.hid (R1.out.below hb)
      replace R2 := Lib.hid (R2.out.below hb)
      have R3 : Hid (EEnt.Row (fun b => w.heap.size + 1 + 1 < b) wa3 ((v.caches.take k3)) (.slice uo3 n3 uc3)) := hu.row (fun _ h => h.elim) (fun b hb => by omega)
      have hba : Hid (Below w.heap.size w wa3) := HB.out.trans (hb.mono HB.out.size)
      replace ZZ : w.heap.size + 1 + 1 < wa3.heap.size := Nat.lt_of_lt_of_le ZZ hb.size
      clear hu hb HKV KV hn HB hz3 CT
      go_upto_region 14 with fail
      obtain ⟨wb3, hwb⟩ : ∃ W, wa3.setCell ⟨w.heap.size + 1, 3, none⟩ (.slice uo3 n3 uc3) = W := ⟨_, rfl⟩
      rw [hwb] at HWR
      rw [hwb]
      clear hwb cv3 fv
      have HKV : Hid (wb3.heap[w.heap.size + 1]? = some (.cells #[.slice uo0 n0 uc0, .slice uo1 n1 uc1, .slice uo2 n2 uc2, .slice uo3 n3 uc3, c 43, c 44, c 45, c 46, c 47] tView (0, 0))) := HWR.out.at_
      replace HK0 := Lib.hid ((HWR.out.block _ (by omega)).trans HK0.out)
      replace HKR := Lib.hid ((HWR.out.block _ (by omega)).trans HKR.out)
      replace R0 := Lib.hid (R0.out.keep (Nat.le_of_eq HWR.out.size.symm) fun b hb _ => HWR.out.block b (by omega))
      replace R1 := Lib.hid (R1.out.keep (Nat.le_of_eq HWR.out.size.symm) fun b hb _ => HWR.out.block b (by omega))
      replace R2 := Lib.hid (R2.out.keep (Nat.le_of_eq HWR.out.size.symm) fun b hb _ => HWR.out.block b (by omega))
      replace R3 := Lib.hid (R3.out.keep (Nat.le_of_eq HWR.out.size.symm) fun b hb _ => HWR.out.block b (by omega))
      have HB : Hid (Below w.heap.size w wb3) := hba.out.trans (HWR.out.below (by omega))
      replace ZZ : w.heap.size + 1 + 1 < wb3.heap.size := by rw [HWR.out.size]; exact ZZ
      clear HWR hba
      clear c42 hcap hmin hle
      have c43 : wb3.cell? ⟨w.heap.size + 1, 4, none⟩ = some (.slice ko v.keys.length kc) := by rw [← H43.out]; exact cell_of_blk HKV.out 4
      have hcap := ElemK.Row.lecap (E := EStr) (by rw [← H43.out]; exact (HV.out.below HB.out).keys : EStr.Row (fun b => b < w.heap.size) wb3 v.keys (.slice ko v.keys.length kc))
      obtain ⟨k4, hk4⟩ : ∃ k : Nat, min j.ncach v.keys.length = k := ⟨_, rfl⟩
      have hmin : min (j.ncach : Int) (v.keys.length : Int) = (k4 : Int) := by omega
      have hle : k4 ≤ v.keys.length := by omega
      have HTK4 : Hid (v.keys.take j.ncach = v.keys.take k4) := by
        unfold Hid
        rw [List.take_eq_take_iff]
        omega
      clear hk4
      have CT := Lib.hid (sclone_any (v.keys.take k4) (.slice ko k4 kc) _ (by have := HBV.out.keys; rw [List.length_take]; omega) wb3 (ElemK.Row.take (by rw [← H43.out]; exact (HV.out.below HB.out).keys) hle))
      go_wp2_with fail
      refine CT.out.mono ?_
      rintro e wa4 ⟨u4, rfl, hu, hb⟩
      obtain ⟨uo4, uc4, rfl⟩ := hu.form
      obtain ⟨n4, hn⟩ : ∃ n, (v.keys.take k4).length = n := ⟨_, rfl⟩
      rw [hn] at hu
      rw [hn]
      have hz3 := HB.out.size
      have KV := (hb.block _ (by omega)).trans HKV.out
      have cv4 : wa4.cell? ⟨w.heap.size + 1, 4, none⟩ = some (c 43) := cell_of_blk KV 4
      have fv := free_of_blk KV 4
      have HWR := Lib.hid (wrote_setCell KV 4 (.slice uo4 n4 uc4))
      replace HK0 := Lib.hid ((hb.block _ (by omega)).trans HK0.out)
      replace HKR := Lib.hid ((hb.block _ (by omega)).trans HKR.out)
      replace R0 := Lib.hid (R0.out.below hb)
      replace R1 := Lib.hid (R1.out.below hb)
      replace R2 := Lib.hid (R2.out.below hb)
      replace R3 := Lib.hid (R3.out.below hb)
      have R4 : Hid (EStr.Row (fun b => w.heap.size + 1 + 1 < b) wa4 ((v.keys.take k4)) (.slice uo4 n4 uc4)) := hu.row (fun _ h => h.elim) (fun b hb => by omega)
      have hba : Hid (Below w.heap.size w wa4) := HB.out.trans (hb.mono HB.out.size)
      replace ZZ : w.heap.size + 1 + 1 < wa4.heap.size := Nat.lt_of_lt_of_le ZZ hb.size
      clear hu hb HKV KV hn HB hz3 CT
      go_upto_region 15 with fail
      obtain ⟨wb4, hwb⟩ : ∃ W, wa4.setCell ⟨w.heap.size + 1, 4, none⟩ (.slice uo4 n4 uc4) = W := ⟨_, rfl⟩
      rw [hwb] at HWR
      rw [hwb]
      clear hwb cv4 fv
      have HKV : Hid (wb4.heap[w.heap.size + 1]? = some (.cells #[.slice uo0 n0 uc0, .slice uo1 n1 uc1, .slice uo2 n2 uc2, .slice uo3 n3 uc3, .slice uo4 n4 uc4, c 44, c 45, c 46, c 47] tView (0, 0))) := HWR.out.at_
      replace HK0 := Lib.hid ((HWR.out.block _ (by omega)).trans HK0.out)
      replace HKR := Lib.hid ((HWR.out.block _ (by omega)).trans HKR.out)
      replace R0 := Lib.hid (R0.out.keep (Nat.le_of_eq HWR.out.size.symm) fun b hb _ => HWR.out.block b (by omega))
      replace R1 := Lib.hid (R1.out.keep (Nat.le_of_eq HWR.out.size.symm) fun b hb _ => HWR.out.block b (by omega))
      replace R2 := Lib.hid (R2.out.keep (Nat.le_of_eq HWR.out.size.symm) fun b hb _ => HWR.out.block b (by omega))
      replace R3 := Lib.hid (R3.out.keep (Nat.le_of_eq HWR.out.size.symm) fun b hb _ => HWR.out.block b (by omega))
      replace R4 := Lib.hid (R4.out.keep (Nat.le_of_eq HWR.out.size.symm) fun b hb _ => HWR.out.block b (by omega))
      have HB : Hid (Below w.heap.size w wb4) := hba.out.trans (HWR.out.below (by omega))
      replace ZZ : w.heap.size + 1 + 1 < wb4.heap.size := by rw [HWR.out.size]; exact ZZ
      clear HWR hba
      clear c43 hcap hmin hle
      clear c27
      have c44 : wb4.cell? ⟨w.heap.size + 1, 5, none⟩ = some (.slice tq v.tests.length tc) := by rw [← H44.out]; exact cell_of_blk HKV.out 5
      have CT := Lib.hid (sclone_any v.tests (.slice tq v.tests.length tc) _ (by have := HBV.out.tests; omega) wb4 (by rw [← H44.out]; exact (HV.out.below HB.out).tests))
      go_wp2_with fail
      refine CT.out.mono ?_
      rintro e wa5 ⟨u5, rfl, hu, hb⟩
      obtain ⟨uo5, uc5, rfl⟩ := hu.form
      obtain ⟨n5, hn⟩ : ∃ n, v.tests.length = n := ⟨_, rfl⟩
      rw [hn] at hu
      rw [hn]
      have hz3 := HB.out.size
      have KV := (hb.block _ (by omega)).trans HKV.out
      have cv5 : wa5.cell? ⟨w.heap.size + 1, 5, none⟩ = some (c 44) := cell_of_blk KV 5
      have fv := free_of_blk KV 5
      have HWR := Lib.hid (wrote_setCell KV 5 (.slice uo5 n5 uc5))
      replace HK0 := Lib.hid ((hb.block _ (by omega)).trans HK0.out)
      replace HKR := Lib.hid ((hb.block _ (by omega)).trans HKR.out)
      replace R0 := Lib.hid (R0.out.below hb)
      replace R1 := Lib.hid (R1.out.below hb)
      replace R2 := Lib.hid (R2.out.below hb)
      replace R3 := Lib.hid (R3.out.below hb)
      replace R4 := Lib.hid (R4.out.below hb)
      have R5 : Hid (EStr.Row (fun b => w.heap.size + 1 + 1 < b) wa5 (v.tests) (.slice uo5 n5 uc5)) := hu.row (fun _ h => h.elim) (fun b hb => by omega)
      have hba : Hid (Below w.heap.size w wa5) := HB.out.trans (hb.mono HB.out.size)
      replace ZZ : w.heap.size + 1 + 1 < wa5.heap.size := Nat.lt_of_lt_of_le ZZ hb.size
      clear hu hb HKV KV hn HB hz3 CT
      go_upto_region 16 with fail
      obtain ⟨wb5, hwb⟩ : ∃ W, wa5.setCell ⟨w.heap.size + 1, 5, none⟩ (.slice uo5 n5 uc5) = W := ⟨_, rfl⟩
      rw [hwb] at HWR
      rw [hwb]
      clear hwb cv5 fv
      have HKV : Hid (wb5.heap[w.heap.size + 1]? = some (.cells #[.slice uo0 n0 uc0, .slice uo1 n1 uc1, .slice uo2 n2 uc2, .slice uo3 n3 uc3, .slice uo4 n4 uc4, .slice uo5 n5 uc5, c 45, c 46, c 47] tView (0, 0))) := HWR.out.at_
      replace HK0 := Lib.hid ((HWR.out.block _ (by omega)).trans HK0.out)
      replace HKR := Lib.hid ((HWR.out.block _ (by omega)).trans HKR.out)
      replace R0 := Lib.hid (R0.out.keep (Nat.le_of_eq HWR.out.size.symm) fun b hb _ => HWR.out.block b (by omega))
      replace R1 := Lib.hid (R1.out.keep (Nat.le_of_eq HWR.out.size.symm) fun b hb _ => HWR.out.block b (by omega))
      replace R2 := Lib.hid (R2.out.keep (Nat.le_of_eq HWR.out.size.symm) fun b hb _ => HWR.out.block b (by omega))
      replace R3 := Lib.hid (R3.out.keep (Nat.le_of_eq HWR.out.size.symm) fun b hb _ => HWR.out.block b (by omega))
      replace R4 := Lib.hid (R4.out.keep (Nat.le_of_eq HWR.out.size.symm) fun b hb _ => HWR.out.block b (by omega))
      replace R5 := Lib.hid (R5.out.keep (Nat.le_of_eq HWR.out.size.symm) fun b hb _ => HWR.out.block b (by omega))
      have HB : Hid (Below w.heap.size w wb5) := hba.out.trans (HWR.out.below (by omega))
      replace ZZ : w.heap.size + 1 + 1 < wb5.heap.size := by rw [HWR.out.size]; exact ZZ
      clear HWR hba
      clear c44
      have c45 : wb5.cell? ⟨w.heap.size + 1, 6, none⟩ = some (.slice mio v.times.length mic) := by rw [← H45.out]; exact cell_of_blk HKV.out 6
      have CT := Lib.hid (tclone_any v.times (.slice mio v.times.length mic) _ (by have := HBV.out.times; omega) wb5 (by rw [← H45.out]; exact (HV.out.below HB.out).times))
      go_wp2_with fail
      refine CT.out.mono ?_
      rintro e wa6 ⟨u6, rfl, hu, hb⟩
      obtain ⟨uo6, uc6, rfl⟩ := hu.form
      obtain ⟨n6, hn⟩ : ∃ n, v.times.length = n := ⟨_, rfl⟩
      rw [hn] at hu
      rw [hn]
      have hz3 := HB.out.size
      have KV := (hb.block _ (by omega)).trans HKV.out
      have cv6 : wa6.cell? ⟨w.heap.size + 1, 6, none⟩ = some (c 45) := cell_of_blk KV 6
      have fv := free_of_blk KV 6
      have HWR := Lib.hid (wrote_setCell KV 6 (.slice uo6 n6 uc6))
      replace HK0 := Lib.hid ((hb.block _ (by omega)).trans HK0.out)
      replace HKR := Lib.hid ((hb.block _ (by omega)).trans HKR.out)
      replace R0 := Lib.hid (R0.out.below hb)
      replace R1 := Lib.hid (R1.out.below hb)
      replace R2 := Lib.hid (R2.out.below hb)
      replace R3 := Lib.hid (R3.out.below hb)
      replace R4 := Lib.hid (R4.out.below hb)
      replace R5 := Lib.hid (R5.out.below hb)
      have R6 : Hid (ETim.Row (fun b => w.heap.size + 1 + 1 < b) wa6 (v.times) (.slice uo6 n6 uc6)) := hu.row (fun _ h => h.elim) (fun b hb => by omega)
      have hba : Hid (Below w.heap.size w wa6) := HB.out.trans (hb.mono HB.out.size)
      replace ZZ : w.heap.size + 1 + 1 < wa6.heap.size := Nat.lt_of_lt_of_le ZZ hb.size
      clear hu hb HKV KV hn HB hz3 CT
      go_upto_region 17 with fail
      obtain ⟨wb6, hwb⟩ : ∃ W, wa6.setCell ⟨w.heap.size + 1, 6, none⟩ (.slice uo6 n6 uc6) = W := ⟨_, rfl⟩
      rw [hwb] at HWR
      rw [hwb]
      clear hwb cv6 fv
      have HKV : Hid (wb6.heap[w.heap.size + 1]? = some (.cells #[.slice uo0 n0 uc0, .slice uo1 n1 uc1, .slice uo2 n2 uc2, .slice uo3 n3 uc3, .slice uo4 n4 uc4, .slice uo5 n5 uc5, .slice uo6 n6 uc6, c 46, c 47] tView (0, 0))) := HWR.out.at_
      replace HK0 := Lib.hid ((HWR.out.block _ (by omega)).trans HK0.out)
      replace HKR := Lib.hid ((HWR.out.block _ (by omega)).trans HKR.out)
      replace R0 := Lib.hid (R0.out.keep (Nat.le_of_eq HWR.out.size.symm) fun b hb _ => HWR.out.block b (by omega))
      replace R1 := Lib.hid (R1.out.keep (Nat.le_of_eq HWR.out.size.symm) fun b hb _ => HWR.out.block b (by omega))
      replace R2 := Lib.hid (R2.out.keep (Nat.le_of_eq HWR.out.size.symm) fun b hb _ => HWR.out.block b (by omega))
      replace R3 := Lib.hid (R3.out.keep (Nat.le_of_eq HWR.out.size.symm) fun b hb _ => HWR.out.block b (by omega))
      replace R4 := Lib.hid (R4.out.keep (Nat.le_of_eq HWR.out.size.symm) fun b hb _ => HWR.out.block b (by omega))
      replace R5 := Lib.hid (R5.out.keep (Nat.le_of_eq HWR.out.size.symm) fun b hb _ => HWR.out.block b (by omega))
      replace R6 := Lib.hid (R6.out.keep (Nat.le_of_eq HWR.out.size.symm) fun b hb _ => HWR.out.block b (by omega))
      have HB : Hid (Below w.heap.size w wb6) := hba.out.trans (HWR.out.below (by omega))
      replace ZZ : w.heap.size + 1 + 1 < wb6.heap.size := by rw [HWR.out.size]; exact ZZ
      clear HWR hba
      clear c45
      have c46 : wb6.cell? ⟨w.heap.size + 1, 7, none⟩ = some (.slice gq v.ignored.length gc) := by rw [← H46.out]; exact cell_of_blk HKV.out 7
      have CT := Lib.hid (sclone_any v.ignored (.slice gq v.ignored.length gc) _ (by have := HBV.out.ign; omega) wb6 (by rw [← H46.out]; exact (HV.out.below HB.out).ign))
      go_wp2_with fail
      refine CT.out.mono ?_
      rintro e wa7 ⟨u7, rfl, hu, hb⟩
      obtain ⟨uo7, uc7, rfl⟩ := hu.form
      obtain ⟨n7, hn⟩ : ∃ n, v.ignored.length = n := ⟨_, rfl⟩
      rw [hn] at hu
      rw [hn]
      have hz3 := HB.out.size
      have KV := (hb.block _ (by omega)).trans HKV.out
      have cv7 : wa7.cell? ⟨w.heap.size + 1, 7, none⟩ = some (c 46) := cell_of_blk KV 7
      have fv := free_of_blk KV 7
      have HWR := Lib.hid (wrote_setCell KV 7 (.slice uo7 n7 uc7))
      replace HK0 := Lib.hid ((hb.block _ (by omega)).trans HK0.out)
      replace HKR := Lib.hid ((hb.block _ (by omega)).trans HKR.out)
      replace R0 := Lib.hid (R0.out.below hb)
      replace R1 := Lib.hid (R1.out.below hb)
      replace R2 := Lib.hid (R2.out.below hb)
      replace R3 := Lib.hid (R3.out.below hb)
      replace R4 := Lib.hid (R4.out.below hb)
      replace R5 := Lib.hid (R5.out.below hb)
      replace R6 := Lib.hid (R6.out.below hb)
      have R7 : Hid (EStr.Row (fun b => w.heap.size + 1 + 1 < b) wa7 (v.ignored) (.slice uo7 n7 uc7)) := hu.row (fun _ h => h.elim) (fun b hb => by omega)
      have hba : Hid (Below w.heap.size w wa7) := HB.out.trans (hb.mono HB.out.size)
      replace ZZ : w.heap.size + 1 + 1 < wa7.heap.size := Nat.lt_of_lt_of_le ZZ hb.size
      clear hu hb HKV KV hn HB hz3 CT
      go_upto_region 18 with fail
      obtain ⟨wb7, hwb⟩ : ∃ W, wa7.setCell ⟨w.heap.size + 1, 7, none⟩ (.slice uo7 n7 uc7) = W := ⟨_, rfl⟩
      rw [hwb] at HWR
      rw [hwb]
      clear hwb cv7 fv
      have HKV : Hid (wb7.heap[w.heap.size + 1]? = some (.cells #[.slice uo0 n0 uc0, .slice uo1 n1 uc1, .slice uo2 n2 uc2, .slice uo3 n3 uc3, .slice uo4 n4 uc4, .slice uo5 n5 uc5, .slice uo6 n6 uc6, .slice uo7 n7 uc7, c 47] tView (0, 0))) := HWR.out.at_
      replace HK0 := Lib.hid ((HWR.out.block _ (by omega)).trans HK0.out)
      replace HKR := Lib.hid ((HWR.out.block _ (by omega)).trans HKR.out)
      replace R0 := Lib.hid (R0.out.keep (Nat.le_of_eq HWR.out.size.symm) fun b hb _ => HWR.out.block b (by omega))
      replace R1 := Lib.hid (R1.out.keep (Nat.le_of_eq HWR.out.size.symm) fun b hb _ => HWR.out.block b (by omega))
      replace R2 := Lib.hid (R2.out.keep (Nat.le_of_eq HWR.out.size.symm) fun b hb _ => HWR.out.block b (by omega))
      replace R3 := Lib.hid (R3.out.keep (Nat.le_of_eq HWR.out.size.symm) fun b hb _ => HWR.out.block b (by omega))
      replace R4 := Lib.hid (R4.out.keep (Nat.le_of_eq HWR.out.size.symm) fun b hb _ => HWR.out.block b (by omega))
      replace R5 := Lib.hid (R5.out.keep (Nat.le_of_eq HWR.out.size.symm) fun b hb _ => HWR.out.block b (by omega))
      replace R6 := Lib.hid (R6.out.keep (Nat.le_of_eq HWR.out.size.symm) fun b hb _ => HWR.out.block b (by omega))
      replace R7 := Lib.hid (R7.out.keep (Nat.le_of_eq HWR.out.size.symm) fun b hb _ => HWR.out.block b (by omega))
      have HB : Hid (Below w.heap.size w wb7) := hba.out.trans (HWR.out.below (by omega))
      replace ZZ : w.heap.size + 1 + 1 < wb7.heap.size := by rw [HWR.out.size]; exact ZZ
      clear HWR hba
      clear c46
      have x0 : wb7.cell? ⟨w.heap.size + 1, 0, none⟩ = some (.slice uo0 n0 uc0) := cell_of_blk HKV.out 0
      have x1 : wb7.cell? ⟨w.heap.size + 1, 1, none⟩ = some (.slice uo1 n1 uc1) := cell_of_blk HKV.out 1
      have x2 : wb7.cell? ⟨w.heap.size + 1, 2, none⟩ = some (.slice uo2 n2 uc2) := cell_of_blk HKV.out 2
      have x3 : wb7.cell? ⟨w.heap.size + 1, 3, none⟩ = some (.slice uo3 n3 uc3) := cell_of_blk HKV.out 3
      have x4 : wb7.cell? ⟨w.heap.size + 1, 4, none⟩ = some (.slice uo4 n4 uc4) := cell_of_blk HKV.out 4
      have x5 : wb7.cell? ⟨w.heap.size + 1, 5, none⟩ = some (.slice uo5 n5 uc5) := cell_of_blk HKV.out 5
      have x6 : wb7.cell? ⟨w.heap.size + 1, 6, none⟩ = some (.slice uo6 n6 uc6) := cell_of_blk HKV.out 6
      have x7 : wb7.cell? ⟨w.heap.size + 1, 7, none⟩ = some (.slice uo7 n7 uc7) := cell_of_blk HKV.out 7
      have x8 : wb7.cell? ⟨w.heap.size + 1, 8, none⟩ = some (.int .i64 v.attempt) := by rw [← H47.out]; exact cell_of_blk HKV.out 8
      go_wp2_with (refine wpList_store_row rfl tView _ _ rfl (w.heap.size + 1 + 1) rfl tView _ HKR.out (.agg #[.slice uo0 n0 uc0, .slice uo1 n1 uc1, .slice uo2 n2 uc2, .slice uo3 n3 uc3, .slice uo4 n4 uc4, .slice uo5 n5 uc5, .slice uo6 n6 uc6, .slice uo7 n7 uc7, .int .i64 v.attempt]) rfl (by kernel_rfl) rfl rfl ?_)
      intro wz hwz
      have HWZ := Lib.hid hwz
      have HZ : Hid (wz.heap[w.heap.size + 1 + 1]? = some (.cells #[.slice uo0 n0 uc0, .slice uo1 n1 uc1, .slice uo2 n2 uc2, .slice uo3 n3 uc3, .slice uo4 n4 uc4, .slice uo5 n5 uc5, .slice uo6 n6 uc6, .slice uo7 n7 uc7, .int .i64 v.attempt] tView (0, 0))) := hwz.at_
      clear hwz x0 x1 x2 x3 x4 x5 x6 x7 x8
      replace R3 : Hid (EEnt.Row (fun b => w.heap.size + 1 + 1 < b) wb7 (v.caches.take j.ncach) (.slice uo3 n3 uc3)) := by unfold Hid; rw [HTK3.out]; exact R3.out
      replace R4 : Hid (EStr.Row (fun b => w.heap.size + 1 + 1 < b) wb7 (v.keys.take j.ncach) (.slice uo4 n4 uc4)) := by unfold Hid; rw [HTK4.out]; exact R4.out
      have S0 : Hid (EFile.Row (fun b => b < wz.heap.size) wz (v.files.filter fun f => declF j.inputs f.path) (.slice uo0 n0 uc0)) := (R0.out.keep (Nat.le_of_eq HWZ.out.size.symm) fun b hb _ => HWZ.out.block b (by omega)).lt.mono fun b hb => hb.2
      have S1 : Hid (EOut.Row (fun b => b < wz.heap.size) wz (v.arts.filter fun o => j.uses.contains o.name) (.slice uo1 n1 uc1)) := (R1.out.keep (Nat.le_of_eq HWZ.out.size.symm) fun b hb _ => HWZ.out.block b (by omega)).lt.mono fun b hb => hb.2
      have S2 : Hid (ESec.Row (fun b => b < wz.heap.size) wz (v.secs.filter fun s => j.secrets.contains s.name) (.slice uo2 n2 uc2)) := (R2.out.keep (Nat.le_of_eq HWZ.out.size.symm) fun b hb _ => HWZ.out.block b (by omega)).lt.mono fun b hb => hb.2
      have S3 : Hid (EEnt.Row (fun b => b < wz.heap.size) wz (v.caches.take j.ncach) (.slice uo3 n3 uc3)) := (R3.out.keep (Nat.le_of_eq HWZ.out.size.symm) fun b hb _ => HWZ.out.block b (by omega)).lt.mono fun b hb => hb.2
      have S4 : Hid (EStr.Row (fun b => b < wz.heap.size) wz (v.keys.take j.ncach) (.slice uo4 n4 uc4)) := (R4.out.keep (Nat.le_of_eq HWZ.out.size.symm) fun b hb _ => HWZ.out.block b (by omega)).lt.mono fun b hb => hb.2
      have S5 : Hid (EStr.Row (fun b => b < wz.heap.size) wz (v.tests) (.slice uo5 n5 uc5)) := (R5.out.keep (Nat.le_of_eq HWZ.out.size.symm) fun b hb _ => HWZ.out.block b (by omega)).lt.mono fun b hb => hb.2
      have S6 : Hid (ETim.Row (fun b => b < wz.heap.size) wz (v.times) (.slice uo6 n6 uc6)) := (R6.out.keep (Nat.le_of_eq HWZ.out.size.symm) fun b hb _ => HWZ.out.block b (by omega)).lt.mono fun b hb => hb.2
      have S7 : Hid (EStr.Row (fun b => b < wz.heap.size) wz (v.ignored) (.slice uo7 n7 uc7)) := (R7.out.keep (Nat.le_of_eq HWZ.out.size.symm) fun b hb _ => HWZ.out.block b (by omega)).lt.mono fun b hb => hb.2
      go_wp2_with fail
      exact bodyPost_ret (results_row1 rfl _ _ (w.heap.size + 1 + 1) tView _ (0, 0) _ rfl HZ.out Tryz.underlying45 rfl (by kernel_rfl)) rfl (by
        exact ⟨dV (.slice uo0 n0 uc0) (.slice uo1 n1 uc1) (.slice uo2 n2 uc2) (.slice uo3 n3 uc3) (.slice uo4 n4 uc4) (.slice uo5 n5 uc5) (.slice uo6 n6 uc6) (.slice uo7 n7 uc7) (.int .i64 v.attempt), rfl, ⟨S0.out, S1.out, S2.out, S3.out, S4.out, S5.out, S6.out, S7.out, rfl⟩, HB.out.trans (HWZ.out.below (by omega))⟩)
end Go.Proofs.YtghahghbahcpfaaGreatDoor
