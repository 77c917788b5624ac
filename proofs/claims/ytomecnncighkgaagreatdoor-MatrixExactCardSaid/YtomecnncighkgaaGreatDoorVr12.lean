/- The walk over the reference's SameVars at two rows that hold the same. -/
import Derived.Test.YtomecnncighkgaaGreatDoorVa5
import Derived.Test.YtomecnncighkgaaGreatDoorVp5
import Derived.Deep.RegionHeld3
namespace Go.Proofs.YtomecnncighkgaaGreatDoor
open Go.RowKit Go.Deep

def SvRel (w : World) (n : Nat) (f : Nat) (t5 : Value) (wr : World) : Prop := ∃ i : Nat, t5 = .int .i64 (i : Nat) ∧ i ≤ n ∧ f = n - i ∧ Below w.heap.size w wr
set_option maxRecDepth 100000 in
set_option maxHeartbeats 6400000 in
theorem samevars_eq (L : List VR) (u v : Value) (B C : Nat → Prop) (hl : L.length ≤ 9223372036854775807) (hwf : ∀ x ∈ L, x.2.wf) (w : World) (hu : EVar.Row B w L u) (hv : EVar.Row C w L v) :
    Calls Tryz.prog 34 #[u, v] w fun e w' => e = .returned (.bool true) ∧ Below w.heap.size w w' := by
  obtain ⟨uo, uc, rfl⟩ := hu.form
  obtain ⟨vo, vc, rfl⟩ := hv.form
  have HU := Lib.hid hu
  have HV := Lib.hid hv
  have HWF := Lib.hid hwf
  clear hu hv hwf
  go_enter Tryz.func34, Tryz.ntmps34
  go_wp2_with fail
  go_loopg [5] L.length (SvRel w L.length)
  case atStart => exact ⟨0, rfl, Nat.zero_le _, rfl, Below.refl _ _⟩
  case round =>
    obtain ⟨i, rfl, hi, rfl, hb⟩ := hrel
    have HB := Lib.hid hb
    clear hb
    by_cases hlt : i < L.length
    · have hii : (i : Int) < (L.length : Int) := by omega
      obtain ⟨bl, ol, cl, rfl, _, hbl, hcl0, hRl⟩ := HU.out.at hlt
      obtain ⟨br, or, cr, rfl, _, hbr, hcr0, hRr⟩ := HV.out.at hlt
      have hwf := HWF.out _ (List.getElem_mem hlt)
      obtain ⟨a1, c1, a2, c2, rfl, hva⟩ := evar_seven hRl
      obtain ⟨a3, c3, a4, c4, rfl, hvb⟩ := evar_seven hRr
      have HF : Hid (∀ W' : World, Below w.heap.size w W' → W'.cell? ⟨bl, ol + i * 7, none⟩ = some (.string L[i].1) ∧ W'.cell? ⟨bl, ol + i * 7 + 1, none⟩ = some (.int .i64 L[i].2.kind) ∧ W'.cell? ⟨bl, ol + i * 7 + 2, none⟩ = some (.bool L[i].2.bool) ∧ W'.cell? ⟨bl, ol + i * 7 + 3, none⟩ = some (.int .i64 L[i].2.int) ∧ W'.cell? ⟨bl, ol + i * 7 + 4, none⟩ = some (.string L[i].2.str) ∧ W'.cell? ⟨bl, ol + i * 7 + 5, none⟩ = some (.slice a1 L[i].2.list.length c1) ∧ W'.cell? ⟨bl, ol + i * 7 + 6, none⟩ = some (.slice a2 L[i].2.keys.length c2) ∧ W'.cell? ⟨br, or + i * 7, none⟩ = some (.string L[i].1) ∧ W'.cell? ⟨br, or + i * 7 + 1, none⟩ = some (.int .i64 L[i].2.kind) ∧ W'.cell? ⟨br, or + i * 7 + 2, none⟩ = some (.bool L[i].2.bool) ∧ W'.cell? ⟨br, or + i * 7 + 3, none⟩ = some (.int .i64 L[i].2.int) ∧ W'.cell? ⟨br, or + i * 7 + 4, none⟩ = some (.string L[i].2.str) ∧ W'.cell? ⟨br, or + i * 7 + 5, none⟩ = some (.slice a3 L[i].2.list.length c3) ∧ W'.cell? ⟨br, or + i * 7 + 6, none⟩ = some (.slice a4 L[i].2.keys.length c4) ∧ Below w.heap.size w W') := fun W' hb => by
        have e : ∀ (j : Nat) u, [Value.string L[i].1, .int .i64 L[i].2.kind, .bool L[i].2.bool, .int .i64 L[i].2.int, .string L[i].2.str, .slice a1 L[i].2.list.length c1, .slice a2 L[i].2.keys.length c2][j]? = some u → W'.cell? ⟨bl, ol + i * 7 + j, none⟩ = some u := fun j u hu => (hb.cell (p := ⟨bl, ol + i * 7 + j, none⟩) hbl).trans (hcl0 j u hu)
        have g : ∀ (j : Nat) u, [Value.string L[i].1, .int .i64 L[i].2.kind, .bool L[i].2.bool, .int .i64 L[i].2.int, .string L[i].2.str, .slice a3 L[i].2.list.length c3, .slice a4 L[i].2.keys.length c4][j]? = some u → W'.cell? ⟨br, or + i * 7 + j, none⟩ = some u := fun j u hu => (hb.cell (p := ⟨br, or + i * 7 + j, none⟩) hbr).trans (hcr0 j u hu)
        exact ⟨e 0 _ rfl, e 1 _ rfl, e 2 _ rfl, e 3 _ rfl, e 4 _ rfl, e 5 _ rfl, e 6 _ rfl, g 0 _ rfl, g 1 _ rfl, g 2 _ rfl, g 3 _ rfl, g 4 _ rfl, g 5 _ rfl, g 6 _ rfl, hb⟩
      have SM := fun W' (hW : Below w.heap.size w W') => Lib.hid (same_any L[i].2 L[i].2 hwf hwf _ _ W' (hva.at_.below hW) (hvb.at_.below hW))
      rw [(sameV_iff L[i].2 L[i].2).2 rfl] at SM
      clear hcl0 hcr0 hRl hRr hva hvb hwf
      generalize L[i].1 = nm at *
      generalize L[i].2.kind = k at *
      generalize L[i].2.bool = b at *
      generalize L[i].2.int = n at *
      generalize L[i].2.str = s at *
      generalize L[i].2.list.length = ll at *
      generalize L[i].2.keys.length = kl at *
      have SMS : Hid (∀ W' : World, W'.cell? ⟨bl, ol + i * 7, none⟩ = some (.string nm) ∧ W'.cell? ⟨bl, ol + i * 7 + 1, none⟩ = some (.int .i64 k) ∧ W'.cell? ⟨bl, ol + i * 7 + 2, none⟩ = some (.bool b) ∧ W'.cell? ⟨bl, ol + i * 7 + 3, none⟩ = some (.int .i64 n) ∧ W'.cell? ⟨bl, ol + i * 7 + 4, none⟩ = some (.string s) ∧ W'.cell? ⟨bl, ol + i * 7 + 5, none⟩ = some (.slice a1 ll c1) ∧ W'.cell? ⟨bl, ol + i * 7 + 6, none⟩ = some (.slice a2 kl c2) ∧ W'.cell? ⟨br, or + i * 7, none⟩ = some (.string nm) ∧ W'.cell? ⟨br, or + i * 7 + 1, none⟩ = some (.int .i64 k) ∧ W'.cell? ⟨br, or + i * 7 + 2, none⟩ = some (.bool b) ∧ W'.cell? ⟨br, or + i * 7 + 3, none⟩ = some (.int .i64 n) ∧ W'.cell? ⟨br, or + i * 7 + 4, none⟩ = some (.string s) ∧ W'.cell? ⟨br, or + i * 7 + 5, none⟩ = some (.slice a3 ll c3) ∧ W'.cell? ⟨br, or + i * 7 + 6, none⟩ = some (.slice a4 kl c4) ∧ Below w.heap.size w W' → Calls Tryz.prog 63 #[.agg #[.int .i64 k, .bool b, .int .i64 n, .string s, .slice a1 ll c1, .slice a2 kl c2], .agg #[.int .i64 k, .bool b, .int .i64 n, .string s, .slice a3 ll c3, .slice a4 kl c4]] W' fun e w' => e = .returned (.bool true) ∧ w'.cell? ⟨bl, ol + i * 7, none⟩ = some (.string nm) ∧ w'.cell? ⟨bl, ol + i * 7 + 1, none⟩ = some (.int .i64 k) ∧ w'.cell? ⟨bl, ol + i * 7 + 2, none⟩ = some (.bool b) ∧ w'.cell? ⟨bl, ol + i * 7 + 3, none⟩ = some (.int .i64 n) ∧ w'.cell? ⟨bl, ol + i * 7 + 4, none⟩ = some (.string s) ∧ w'.cell? ⟨bl, ol + i * 7 + 5, none⟩ = some (.slice a1 ll c1) ∧ w'.cell? ⟨bl, ol + i * 7 + 6, none⟩ = some (.slice a2 kl c2) ∧ w'.cell? ⟨br, or + i * 7, none⟩ = some (.string nm) ∧ w'.cell? ⟨br, or + i * 7 + 1, none⟩ = some (.int .i64 k) ∧ w'.cell? ⟨br, or + i * 7 + 2, none⟩ = some (.bool b) ∧ w'.cell? ⟨br, or + i * 7 + 3, none⟩ = some (.int .i64 n) ∧ w'.cell? ⟨br, or + i * 7 + 4, none⟩ = some (.string s) ∧ w'.cell? ⟨br, or + i * 7 + 5, none⟩ = some (.slice a3 ll c3) ∧ w'.cell? ⟨br, or + i * 7 + 6, none⟩ = some (.slice a4 kl c4) ∧ Below w.heap.size w w') := fun W' hS => (SM W' (hS.2.2.2.2.2.2.2.2.2.2.2.2.2.2)).out.mono (by
        rintro e w' ⟨rfl, hb⟩
        exact ⟨rfl, HF.out w' ((hS.2.2.2.2.2.2.2.2.2.2.2.2.2.2).trans (hb.mono (hS.2.2.2.2.2.2.2.2.2.2.2.2.2.2).size))⟩)
      have tn : (nm.toList == nm.toList) = true := beq_self_eq_true _
      have tm : (nm.toList != nm.toList) = false := by simp
      have HS0 := Lib.hid (HF.out _ HB.out.drew)
      clear SM
      as_aux_lemma =>
      go_upto_region 6 with fail
      go_region_held3 (fun W' : World => W'.cell? ⟨bl, ol + i * 7, none⟩ = some (.string nm) ∧ W'.cell? ⟨bl, ol + i * 7 + 1, none⟩ = some (.int .i64 k) ∧ W'.cell? ⟨bl, ol + i * 7 + 2, none⟩ = some (.bool b) ∧ W'.cell? ⟨bl, ol + i * 7 + 3, none⟩ = some (.int .i64 n) ∧ W'.cell? ⟨bl, ol + i * 7 + 4, none⟩ = some (.string s) ∧ W'.cell? ⟨bl, ol + i * 7 + 5, none⟩ = some (.slice a1 ll c1) ∧ W'.cell? ⟨bl, ol + i * 7 + 6, none⟩ = some (.slice a2 kl c2) ∧ W'.cell? ⟨br, or + i * 7, none⟩ = some (.string nm) ∧ W'.cell? ⟨br, or + i * 7 + 1, none⟩ = some (.int .i64 k) ∧ W'.cell? ⟨br, or + i * 7 + 2, none⟩ = some (.bool b) ∧ W'.cell? ⟨br, or + i * 7 + 3, none⟩ = some (.int .i64 n) ∧ W'.cell? ⟨br, or + i * 7 + 4, none⟩ = some (.string s) ∧ W'.cell? ⟨br, or + i * 7 + 5, none⟩ = some (.slice a3 ll c3) ∧ W'.cell? ⟨br, or + i * 7 + 6, none⟩ = some (.slice a4 kl c4) ∧ Below w.heap.size w W') (first | exact HS0.out | assumption | go_keep)
        (first
          | (go_at_call 63; refine (SMS.out _ (by assumption)).mono ?_; rintro e wA0 ⟨rfl, hSA0⟩))
      have HBE : Hid (Below w.heap.size w wA0) := hSA0.2.2.2.2.2.2.2.2.2.2.2.2.2.2
      clear hSA0 HS0
      go_wp2_with fail
      go_roundg (L.length - (i + 1))
      case measure => omega
      case rel => exact ⟨i + 1, by go_num, by omega, rfl, HBE.out⟩
    · have hii : ¬ (i : Int) < (L.length : Int) := by omega
      as_aux_lemma =>
      go_wp2_with fail
      go_ret
      exact ⟨rfl, HB.out⟩
end Go.Proofs.YtomecnncighkgaaGreatDoor
