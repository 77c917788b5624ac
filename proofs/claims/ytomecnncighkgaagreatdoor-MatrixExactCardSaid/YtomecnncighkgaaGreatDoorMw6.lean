/- The walks over matrix.many, matrix.instance and the closures of Expand. -/
import Derived.Test.YtomecnncighkgaaGreatDoorMw3m
import Derived.Test.YtomecnncighkgaaGreatDoorVq7m
namespace Go.Proofs.YtomecnncighkgaaGreatDoor
open Go.RowKit Go.Deep

def MnRel (A : List AX) (w1 : World) (f : Nat) (t3 t10 : Value) (wr : World) : Prop :=
  ∃ i : Nat, t10 = .int .i64 (i : Nat) ∧ i ≤ A.length ∧ f = A.length - i ∧ t3 = .int .i64 (satK 257 (A.take i) : Nat) ∧ Below w1.heap.size w1 wr
set_option maxRecDepth 100000 in
set_option maxHeartbeats 3200000 in
theorem many_any (A : List AX) (v : Value) (B : Nat → Prop) (hl : ∀ a ∈ A, a.2.length ≤ 1024) (hn : A.length ≤ 9223372036854775807) (w : World) (h : EAx.Row B w A v) :
    Calls Tryz.prog 24 #[v] w fun e w' => e = .returned (.bool (manyF A)) ∧ Below w.heap.size w w' := by
  obtain ⟨ao, cap, rfl⟩ := h.form
  have CF : Hid (Calls Tryz.prog 36 #[.slice ao A.length cap, .func (.func 55) #[] #[]] w fun e w' => e = .returned (.bool (A.any (fun a => decide (a.2.length = 0)))) ∧ Below w.heap.size w w') :=
    acontf_any 55 #[] (fun a => decide (a.2.length = 0)) A _ B hn w h (fun k hk cs W' hW' hR => by
      obtain ⟨lo, lc, rfl, _⟩ := eax_two hR
      exact many1_any _ _ _ _ W') many1Enters
  have HA := Lib.hid h
  have HL := Lib.hid hl
  have HE := Lib.hid (fun h => many_empty (l := A) h)
  have HS := Lib.hid (fun h => many_sat (l := A) 257 (by decide) h)
  have HSL : Hid (∀ l : List AX, satK 257 l ≤ 257) := satK_le (by decide)
  have HST : Hid (∀ i (hi : i < A.length), satK 257 (A.take (i + 1)) = min (satK 257 (A.take i) * A[i].2.length) 257) := fun i hi => satK_step hi
  have HZ : Hid (satK 257 (A.take 0) = 1) := rfl
  have HT : Hid (A.foldl (fun n a => min (n * a.2.length) 257) 1 = satK 257 A) := rfl
  clear h hl
  generalize A.any (fun a => decide (a.2.length = 0)) = dd at *
  generalize manyF A = r at *
  go_enter Tryz.func24, Tryz.ntmps24
  go_wp2_with fail
  refine CF.out.mono ?_
  rintro e w3 ⟨rfl, hb3⟩
  have HB3 := Lib.hid hb3
  clear CF hb3
  cases dd with
  | true =>
    have HN := Lib.hid (HE.out rfl)
    clear HE HS
    go_wp2_with fail
    go_ret
    exact ⟨by rw [HN.out] <;> rfl, HB3.out⟩
  | false =>
    have HN := Lib.hid (HS.out rfl)
    clear HE HS
    go_wp2_with fail
    go_loopg [3, 10] A.length (MnRel A w)
    case atStart => exact ⟨0, rfl, Nat.zero_le _, rfl, by rw [HZ.out]; rfl, HB3.out⟩
    case round =>
      obtain ⟨i, rfl, hi, rfl, rfl, hbel⟩ := hrel
      have HB := Lib.hid hbel
      clear hbel
      by_cases hlt : i < A.length
      · have hii : (i : Int) < (A.length : Int) := by omega
        obtain ⟨bl, off, a1, c1, rfl, hbl, e0, e1, hvr⟩ := eax_at (HA.out.below HB.out) hlt
        have hx := HL.out _ (List.getElem_mem hlt)
        have hs := HSL.out (A.take i)
        have HST2 := Lib.hid (HST.out i hlt)
        clear hvr HST
        generalize A[i] = x at *
        obtain ⟨xn, xv⟩ := x
        dsimp only at hx e0 e1
        have HST3 : Hid (satK 257 (A.take (i + 1)) = min (satK 257 (A.take i) * xv.length) 257) := HST2.out
        clear HST2
        generalize satK 257 (A.take i) = s1 at *
        generalize xv.length = n at *
        have hm : s1 * n ≤ 257 * 1024 := Nat.mul_le_mul hs hx
        have q1 : IntKind.i64.wrap ((s1 : Int) * (n : Int)) = (s1 : Int) * (n : Int) := IntWalk.i64_in _ (by
          have : ((s1 * n : Nat) : Int) = (s1 : Int) * (n : Int) := by simp
          omega)
        have HBA : Hid (∀ o, Below w.heap.size w (wr.alloc o)) := fun o => HB.out.alloc HB.out.size o
        as_aux_lemma =>
        go_wp2_with fail
        go_roundg (A.length - (i + 1))
        case measure => omega
        case rel => exact ⟨i + 1, by go_num, by omega, rfl, iv (by rw [HST3.out]; have : ((s1 * n : Nat) : Int) = (s1 : Int) * (n : Int) := (by simp); omega), HBA.out _⟩
      · have hii : ¬ (i : Int) < (A.length : Int) := by omega
        have he : i = A.length := by omega
        have HN2 : Hid (r = decide (256 < satK 257 (A.take i))) := by unfold Hid; rw [he, List.take_length, HN.out, HT.out]
        clear he HN
        generalize satK 257 (A.take i) = s1 at *
        as_aux_lemma =>
        go_wp2_with fail
        go_ret
        exact ⟨ret_bool (by rw [HN2.out, Bool.eq_iff_iff]; simp; first | done | omega), HB.out⟩
set_option maxRecDepth 100000 in
set_option maxHeartbeats 3200000 in
theorem instance_any (L : List VR) (v : Value) (B : Nat → Prop) (hl : L.length ≤ 1000000) (hsz : ∀ x ∈ L, x.1.size ≤ 9223372036854775807) (hn : (L.map nmR).Nodup) (w : World) (h : EVar.Row B w L v) :
    Calls Tryz.prog 28 #[v] w fun e w' => ∃ ao cap, e = .returned (.slice ao L.length cap) ∧ EVar.Row (fun b => (B b ∧ b < w.heap.size) ∨ w.heap.size ≤ b) w' (instF L) (.slice ao L.length cap) ∧ Below w.heap.size w w' := by
  have CL := Lib.hid (vclonel_any L v B (by omega) w h)
  obtain ⟨ao, cap, rfl⟩ := h.form
  have HSZ := Lib.hid hsz
  have HN := Lib.hid hn
  have HLL : Hid (L.length ≤ 1000000) := hl
  clear h hsz hn hl
  go_enter Tryz.func28, Tryz.ntmps28
  go_wp2_with fail
  refine CL.out.mono ?_
  rintro e w3 ⟨r, rfl, ho, hb⟩
  obtain ⟨ro, rc, rfl⟩ := ho.form
  have SO := Lib.hid (sortv_row w w3 _ _ L HLL.out HSZ.out ho hb HN.out)
  clear CL ho hb
  go_wp2_with fail
  refine SO.out.mono ?_
  rintro e w5 ⟨rfl, hr, hb⟩
  have HR := Lib.hid hr
  have HB := Lib.hid hb
  clear SO hr hb
  go_wp2_with fail
  go_ret
  exact ⟨_, _, rfl, HR.out, HB.out⟩
set_option maxRecDepth 100000 in
set_option maxHeartbeats 3200000 in
theorem expand1_any (V P : List VR) (v u : Value) (B C : Nat → Prop) (hlV : V.length ≤ 9223372036854775807) (hlP : P.length ≤ 9223372036854775807) (hwV : ∀ x ∈ V, x.2.wf) (hwP : ∀ x ∈ P, x.2.wf) (b5 : Nat) (w : World) (hc : w.cell? ⟨b5, 0, none⟩ = some v) (hV : EVar.Row B w V v) (hP : EVar.Row C w P u) :
    Calls Tryz.prog 27 (#[u] ++ #[.pointer (some ⟨b5, 0, none⟩)]) w fun e w' => e = .returned (.bool (matF V P)) ∧ Below w.heap.size w w' := by
  have C1 := Lib.hid (matches_any V P v u B C hlV hlP hwV hwP w hV hP)
  obtain ⟨vo, vc, rfl⟩ := hV.form
  obtain ⟨uo, uc, rfl⟩ := hP.form
  clear hV hP hwV hwP
  generalize matF V P = b at *
  go_enter Tryz.func27, Tryz.ntmps27
  go_wp2_with fail
  refine C1.out.mono ?_
  rintro e w5 ⟨rfl, hb5⟩
  have HB5 := Lib.hid hb5
  clear hb5 C1
  go_wp2_with fail
  go_ret
  exact ⟨rfl, HB5.out⟩
set_option maxRecDepth 100000 in
set_option maxHeartbeats 3200000 in
theorem expand2_any (V P : List VR) (v u : Value) (B C : Nat → Prop) (hlV : V.length ≤ 9223372036854775807) (hlP : P.length ≤ 9223372036854775807) (hwV : ∀ x ∈ V, x.2.wf) (hwP : ∀ x ∈ P, x.2.wf) (b5 : Nat) (w : World) (hc : w.cell? ⟨b5, 0, none⟩ = some v) (hV : EVar.Row B w V v) (hP : EVar.Row C w P u) :
    Calls Tryz.prog 29 (#[u] ++ #[.pointer (some ⟨b5, 0, none⟩)]) w fun e w' => e = .returned (.bool (agrF P V)) ∧ Below w.heap.size w w' := by
  have C1 := Lib.hid (matches_any P V u v C B hlP hlV hwP hwV w hP hV)
  have C2 : Hid (∀ W', Below w.heap.size w W' → Calls Tryz.prog 15 #[v, u] W' fun e w' => e = .returned (.bool (matF V P)) ∧ Below W'.heap.size W' w') := fun W' hb => matches_any V P v u B C hlV hlP hwV hwP W' (hV.below hb) (hP.below hb)
  have HA : Hid (agrF P V = (matF P V && matF V P)) := rfl
  have HCX : Hid (∀ W', Below w.heap.size w W' → W'.cell? ⟨b5, 0, none⟩ = some v) := fun W' hb => (hb.cell (p := ⟨b5, 0, none⟩) (World.block_lt_of_cell? w _ hc)).trans hc
  obtain ⟨vo, vc, rfl⟩ := hV.form
  obtain ⟨uo, uc, rfl⟩ := hP.form
  clear hV hP hwV hwP
  generalize agrF P V = r at *
  generalize matF P V = a at *
  generalize matF V P = b at *
  go_enter Tryz.func29, Tryz.ntmps29
  go_wp2_with fail
  refine C1.out.mono ?_
  rintro e w3 ⟨rfl, hb3⟩
  have HB3 := Lib.hid hb3
  have C3 := Lib.hid (C2.out w3 hb3)
  have hc3 := HCX.out w3 hb3
  clear hb3 C1 C2 hc
  cases a with
  | false =>
    have HN : Hid (r = false) := by unfold Hid; rw [HA.out]; rfl
    clear HA C3
    go_wp2_with fail
    go_ret
    exact ⟨by rw [HN.out] <;> rfl, HB3.out⟩
  | true =>
    have HN : Hid (r = b) := by unfold Hid; rw [HA.out]; rfl
    clear HA
    go_wp2_with fail
    refine C3.out.mono ?_
    rintro e w5 ⟨rfl, hb5⟩
    have HB5 := Lib.hid (HB3.out.trans (hb5.mono HB3.out.size))
    clear hb5 C3
    go_wp2_with fail
    go_ret
    exact ⟨by rw [HN.out] <;> rfl, HB5.out⟩
end Go.Proofs.YtomecnncighkgaaGreatDoor
