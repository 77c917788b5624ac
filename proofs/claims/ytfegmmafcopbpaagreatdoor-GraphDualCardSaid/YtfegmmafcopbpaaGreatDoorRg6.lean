/- The walks over the reference's Above, Below and Ready. -/
import Derived.Test.YtfegmmafcopbpaaGreatDoorRg5
import Derived.Test.YtfegmmafcopbpaaGreatDoorGsor
import Derived.Test.YtfegmmafcopbpaaGreatDoorGd1
namespace Go.Proofs.YtfegmmafcopbpaaGreatDoor
open Go.RowKit

theorem sort_nil : sortF [] = [] := rfl
theorem aboveT_same (G : Gr) (hf : formedF G = 0) (b : Bs) : sortF (aboveT G b) = aboveF G b := by
  have hs := formed_sound hf
  unfold aboveF reachF
  rw [if_neg (show ¬ formedF G ≠ 0 by simp [hf])]
  unfold aboveT
  by_cases h : b ∈ idsG G
  · rw [if_pos h, if_pos h, above_same hs]
  · rw [if_neg h, if_neg h]; rfl
theorem aboveT_in {G : Gr} (hs : Sound G) (b : Bs) : ∀ x ∈ aboveT G b, x ∈ idsG G := by
  intro x hx
  unfold aboveT at hx
  by_cases h : b ∈ idsG G
  · rw [if_pos h] at hx; exact ((mem_aboveR hs).1 hx).1
  · rw [if_neg h] at hx; cases hx
theorem addN_nodup {α : Type} [BEq α] [LawfulBEq α] (l ms : List α) (h : l.Nodup) : (addN l ms).Nodup := by
  obtain ⟨r, _, _, h3⟩ := addN_app ms l
  exact h3 h
theorem cloTo_nodup {α : Type} [BEq α] [LawfulBEq α] {next : α → List α} : ∀ (f i : Nat) (l : List α), l.Nodup → (cloTo next f i l).Nodup
  | 0, i, l, h => by rw [cloTo]; exact h
  | f + 1, i, l, h => by
    rw [cloTo]
    split
    · exact h
    · exact cloTo_nodup f _ _ (addN_nodup _ _ h)
theorem aboveT_nodup {G : Gr} (hs : Sound G) (b : Bs) : (aboveT G b).Nodup := by
  unfold aboveT
  by_cases h : b ∈ idsG G
  · rw [if_pos h]; exact cloTo_nodup _ _ _ (needA_nodup hs _)
  · rw [if_neg h]; exact List.nodup_nil
theorem ids_size {ns : List Nd} (hS : Sound (grO ns)) {s : ByteArray} (h : s.data.toList ∈ idsG (grO ns)) : s.size ≤ 9223372036854775807 := by
  obtain ⟨y, hy, e⟩ := List.mem_map.1 h
  obtain ⟨x, hx, rfl⟩ := List.mem_map.1 hy
  have h1 := grO_sizes hS x hx
  simp only at e
  rw [Lib.size_eq, ← e, ← Lib.size_eq]
  exact h1
theorem sort_call {ns : List Nd} (hS : Sound (grO ns)) (hl : ns.length ≤ 1000) {v : Value} {ss : List ByteArray} (hin : ∀ x ∈ dts ss, x ∈ idsG (grO ns)) (hnd : (dts ss).Nodup) (w : World) (h : StrsAt w v ss) : Calls Tryz.prog 48 #[v] w (StrPost (sortF (dts ss)) w) := by
  have h1 := nodup_le (idsG (grO ns)) _ hnd hin
  rw [ids_len, grO_len, dts_len] at h1
  exact rsorted_any v ss (by omega) (fun s hs => ids_size hS (hin _ (List.mem_map.2 ⟨s, hs, rfl⟩))) w h

set_option maxRecDepth 100000 in
set_option maxHeartbeats 1600000 in
theorem rAbove_any (nv : Value) (ns : List Nd) (hl : ns.length ≤ 1000) (hnl : ∀ x ∈ ns, x.needs.length ≤ 9223372036854775807) (b : ByteArray) (w : World) (h : NdAt w nv ns) : Calls Tryz.prog 22 #[nv, .string b] w (StrPost (aboveF (grO ns) b.data.toList) w) := by
  have HF := Lib.hid (rformed_any nv ns (by omega) hnl w h)
  have AB : Hid (formedF (grO ns) = 0 → ∀ W, Below w.heap.size w W → Calls Tryz.prog 49 #[nv, .string b] W fun e w' => ∃ v ss, e = .returned v ∧ StrsAt w' v ss ∧ dts ss = aboveT (grO ns) b.data.toList ∧ Below W.heap.size W w') := fun h0 W hW => rabove_any nv ns (formed_sound h0) b W (h.below hW)
  obtain ⟨ao, cap, rfl⟩ := h.sl.form
  clear h hnl
  go_enter Tryz.func22, Tryz.ntmps22
  by_cases h1 : formedF (grO ns) = 0
  · have AB1 := Lib.hid (AB.out h1)
    have HV : Hid (sortF (aboveT (grO ns) b.data.toList) = aboveF (grO ns) b.data.toList) := aboveT_same _ h1 _
    have SC : Hid (∀ v ss W, dts ss = aboveT (grO ns) b.data.toList → StrsAt W v ss → Calls Tryz.prog 48 #[v] W (StrPost (sortF (dts ss)) W)) := fun v ss W hd hs => sort_call (formed_sound h1) hl (by rw [hd]; exact aboveT_in (formed_sound h1) _) (by rw [hd]; exact aboveT_nodup (formed_sound h1) _) W hs
    rw [h1] at HF
    clear h1 AB
    as_aux_lemma =>
    go_wp2_with fail
    refine HF.out.mono ?_
    rintro e w1 ⟨rfl, hb⟩
    have HB := Lib.hid hb
    have AB2 := Lib.hid (AB1.out w1 hb)
    clear hb HF AB1
    go_wp2_with fail
    refine AB2.out.mono ?_
    rintro e w2 ⟨v, ss, rfl, hs, hd, hb⟩
    have HB2 := Lib.hid (HB.out.trans (hb.mono HB.out.size))
    have SC2 := SC.out v ss w2 hd hs
    rw [hd, HV.out] at SC2
    have SC3 := Lib.hid SC2
    clear hs hd hb AB2 SC SC2
    go_wp2_with fail
    refine SC3.out.mono ?_
    rintro e w3 ⟨v, ss, rfl, hs, hd, hb⟩
    have HS := Lib.hid hs
    have HD := Lib.hid hd
    have HB3 := Lib.hid (HB2.out.trans (hb.mono HB2.out.size))
    clear hs hd hb
    go_wp2_with fail
    go_ret
    exact ⟨_, ss, rfl, HS.out, HD.out, HB3.out⟩
  · have HV : Hid (aboveF (grO ns) b.data.toList = []) := by unfold Hid aboveF; rw [if_pos h1]
    have h2i : (((formedF (grO ns) : Nat) : Int) != 0) = true := by simp; exact h1
    clear h1 AB
    generalize formedF (grO ns) = fo at *
    as_aux_lemma =>
    go_wp2_with fail
    refine HF.out.mono ?_
    rintro e w1 ⟨rfl, hb⟩
    have HB := Lib.hid hb
    clear hb HF
    go_wp2_with fail
    go_ret
    exact ⟨_, [], rfl, .inl ⟨_, _, rfl, rfl⟩, by rw [HV.out]; rfl, HB.out⟩

def selG (G : Gr) (q : Nat → Bool) (k : Nat) : List Bs := ((List.range k).filter q).map (idA G)
theorem sel_in {G : Gr} {q : Nat → Bool} {k : Nat} (hk : k ≤ G.length) : ∀ x ∈ selG G q k, x ∈ idsG G := by
  intro x hx
  obtain ⟨i, hi, rfl⟩ := List.mem_map.1 hx
  have := List.mem_range.1 (List.mem_filter.1 hi).1
  exact idA_mem (by omega)
theorem sel_nodup {G : Gr} (hs : Sound G) {q : Nat → Bool} {k : Nat} (hk : k ≤ G.length) : (selG G q k).Nodup := by
  unfold selG
  rw [List.Nodup, List.pairwise_map]
  refine (List.nodup_range.filter q).imp_of_mem fun ha hb hne e => hne ?_
  have h1 := List.mem_range.1 (List.mem_filter.1 ha).1
  have h2 := List.mem_range.1 (List.mem_filter.1 hb).1
  exact idA_inj hs.nodup (by omega) (by omega) e
theorem ids_range (G : Gr) : idsG G = (List.range G.length).map (idA G) := by
  refine List.ext_getElem (by simp [idsG]) fun i h1 h2 => ?_
  rw [List.getElem_map, List.getElem_range, idA_ids h1]
def selS (ns : List Nd) (q : Nat → Bool) (k : Nat) : List ByteArray := ((List.range k).filter q).map fun j => (ns.getD j default).id
theorem selS_succ (ns : List Nd) (q : Nat → Bool) (k : Nat) : selS ns q (k + 1) = selS ns q k ++ if q k = true then [(ns.getD k default).id] else [] := by
  unfold selS
  rw [List.range_succ, List.filter_append, List.map_append, List.filter_cons]
  split <;> simp
theorem selS_len (ns : List Nd) (q : Nat → Bool) (k : Nat) : (selS ns q k).length ≤ k := by
  unfold selS
  rw [List.length_map]
  have := List.length_filter_le q (List.range k)
  simpa using this
theorem selS_dts (ns : List Nd) (q : Nat → Bool) {k : Nat} (hk : k ≤ ns.length) : dts (selS ns q k) = selG (grO ns) q k := by
  unfold selS selG dts
  rw [List.map_map]
  refine List.map_congr_left fun i hi => ?_
  have := List.mem_range.1 (List.mem_filter.1 hi).1
  exact (grO_id ns (by omega)).symm
def belB (G : Gr) (b : Bs) (j : Nat) : Bool := decide (b ∈ aboveT G (idA G j))
theorem belowF_sel {G : Gr} (hf : formedF G = 0) {b : Bs} (hb : b ∈ idsG G) : belowF G b = sortF (selG G (belB G b) G.length) := by
  have hs := formed_sound hf
  unfold belowF reachF
  rw [if_neg (by simp [hf]), if_pos hb, below_same hs hb]
  congr 1
  unfold belowR selG
  rw [ids_range, List.filter_map]
  congr 1
  refine List.filter_congr fun i hi => ?_
  have hi2 := List.mem_range.1 hi
  unfold belB aboveT
  rw [if_pos (idA_mem hi2), Function.comp, Bool.eq_iff_iff, List.contains_iff_mem, decide_eq_true_eq]
def SelRel (w1 : World) (ns : List Nd) (q : Nat → Bool) (f : Nat) (t5 t6 : Value) (wr : World) : Prop :=
  ∃ k : Nat, t6 = .int .i64 (k : Nat) ∧ k ≤ ns.length ∧ f = ns.length - k ∧ wr.ownsRow w1.heap.size 9 1 t5 (selS ns q k).length ((selS ns q k).map Value.string) ∧ Below w1.heap.size w1 wr

set_option maxRecDepth 100000 in
set_option maxHeartbeats 3200000 in
theorem rBelow_any (nv : Value) (ns : List Nd) (hl : ns.length ≤ 1000) (hnl : ∀ x ∈ ns, x.needs.length ≤ 9223372036854775807) (b : ByteArray) (w : World) (h : NdAt w nv ns) : Calls Tryz.prog 24 #[nv, .string b] w (StrPost (belowF (grO ns) b.data.toList) w) := by
  have HF := Lib.hid (rformed_any nv ns (by omega) hnl w h)
  have FA := fun W (hW : Below w.heap.size w W) => Lib.hid (find_any nv ns b (by omega) W (h.below hW))
  have AB : Hid (formedF (grO ns) = 0 → ∀ s W, Below w.heap.size w W → Calls Tryz.prog 49 #[nv, .string s] W fun e w' => ∃ v ss, e = .returned v ∧ StrsAt w' v ss ∧ dts ss = aboveT (grO ns) s.data.toList ∧ Below W.heap.size W w') := fun h0 s W hW => rabove_any nv ns (formed_sound h0) s W (h.below hW)
  have H := Lib.hid h
  obtain ⟨ao, cap, rfl⟩ := h.sl.form
  obtain ⟨i9, hi9⟩ := Tryz.info9'
  have HI := Lib.hid hi9
  have HL := Lib.hid (grO_len ns)
  clear h hnl hi9
  go_enter Tryz.func24, Tryz.ntmps24
  by_cases h1 : formedF (grO ns) = 0
  · by_cases hb : b.data.toList ∈ idsG (grO ns)
    · have AB1 := Lib.hid (AB.out h1)
      have HV : Hid (belowF (grO ns) b.data.toList = sortF (dts (selS ns (belB (grO ns) b.data.toList) ns.length))) := by
        unfold Hid
        rw [belowF_sel h1 hb, selS_dts ns _ (Nat.le_refl _), HL.out]
      have HS := formed_sound h1
      have SC : Hid (∀ v W, StrsAt W v (selS ns (belB (grO ns) b.data.toList) ns.length) → Calls Tryz.prog 48 #[v] W (StrPost (sortF (dts (selS ns (belB (grO ns) b.data.toList) ns.length))) W)) := fun v W hs => sort_call HS hl (by rw [selS_dts ns _ (Nat.le_refl _)]; exact sel_in (by rw [HL.out]; exact Nat.le_refl _)) (by rw [selS_dts ns _ (Nat.le_refl _)]; exact sel_nodup HS (by rw [HL.out]; exact Nat.le_refl _)) W hs
      have HTL : Hid (∀ x, (aboveT (grO ns) x).length ≤ 1000000) := fun x => by
        have := nodup_le (idsG (grO ns)) _ (aboveT_nodup HS x) (aboveT_in HS x)
        rw [ids_len, grO_len] at this
        omega
      have hpos : posG (grO ns) b.data.toList < ns.length := by have := posG_lt hb; rwa [HL.out] at this
      have FA1 : ∀ W, Below w.heap.size w W → Hid (Calls Tryz.prog 31 #[.slice ao ns.length cap, .string b] W fun e w' => e = .returned (.int .i64 ((posG (grO ns) b.data.toList : Nat) : Int)) ∧ w' = W) := fun W hW => by
        have := (FA W hW).out
        rw [find_pos hb] at this
        exact this
      rw [h1] at HF
      clear h1 hb AB HS FA
      generalize posG (grO ns) b.data.toList = pq at *
      have hpq : ¬ ((pq : Nat) : Int) < 0 := by omega
      generalize hq : belB (grO ns) b.data.toList = q at *
      have HQ := Lib.hid hq
      clear hq
      go_wp2_with fail
      refine HF.out.mono ?_
      rintro e w1 ⟨rfl, hb⟩
      have HB := Lib.hid hb
      have FA2 := FA1 w1 hb
      clear hb HF FA1
      go_wp2_with fail
      refine FA2.out.mono ?_
      rintro e w2 ⟨rfl, rfl⟩
      clear FA2
      go_wp2_with fail
      go_loopg [5, 6] ns.length (SelRel w ns q)
      case atStart => exact ⟨0, rfl, Nat.zero_le _, rfl, World.ownsRow_nil _ _ _ _, HB.out⟩
      case round =>
        obtain ⟨k, rfl, hk, rfl, hown, hbr⟩ := hrel
        have HOWN := Lib.hid hown
        have HBR := Lib.hid hbr
        have hsl := selS_len ns q k
        obtain ⟨a5, c5, rfl⟩ := ownsRow_form hown
        clear hown hbr HB
        by_cases hlt : k < ns.length
        · have hki : ((k : Nat) : Int) < (ns.length : Int) := by omega
          have HSU := Lib.hid (selS_succ ns q k)
          obtain ⟨nb, noff, rfl, hnb, hc, _, _⟩ := (H.out.below HBR.out).at2 hlt
          have HSC : Hid (∀ W, Below w.heap.size w W → W.cell? ⟨nb, noff + k * 2, none⟩ = some (.string (ns.getD k default).id)) := fun W hW => ((H.out.below hW).lit hlt).2.1
          have HQK : Hid (q k = decide (b.data.toList ∈ aboveT (grO ns) (ns.getD k default).id.data.toList)) := by unfold Hid; rw [← HQ.out]; unfold belB; rw [grO_id ns hlt]
          have A1 := AB1.out (ns.getD k default).id wr HBR.out
          have HA1 := Lib.hid A1
          clear A1
          generalize (ns.getD k default).id = x at *
          go_wp2_with fail
          refine HA1.out.mono ?_
          rintro e w3 ⟨v, ts, rfl, hs, hd, hb⟩
          have hb3 := HBR.out.trans (hb.mono HBR.out.size)
          have HB3 := Lib.hid hb3
          have hc3 := HSC.out w3 hb3
          have htl : ts.length ≤ 1000000 := by have := HTL.out x.data.toList; rw [← hd, dts_len] at this; exact this
          have HAS := Lib.hid (has_any v ts b (by omega) w3 hs)
          rw [hd, ← HQK.out] at HAS
          have HOW3 := Lib.hid (ownsRow_below HOWN.out hb)
          have hws := hb3.size
          clear hs hd hb hb3 HA1 hc HTL htl HOWN
          by_cases hqk : q k = true
          · rw [hqk] at HAS HSU
            rw [if_pos rfl] at HSU
            clear hqk HQK
            as_aux_lemma =>
            go_wp2_with fail
            refine HAS.out.mono ?_
            rintro e w5 ⟨rfl, rfl⟩
            go_wp2_with (at_builtin; refine wpList_append2 rfl _ _ 35 rfl w.heap.size 9 i9 (.string ByteArray.empty) 1 16 Tryz.underlying35 HI.out rfl (by decide) _ _ _ rfl (World.ownsRow.alloc HOW3.out _) ⟨w5.heap.size, 0, none⟩ 1 1 [.string x] rfl rfl (cells_newAt rfl _ 9 (0, 0)) rfl (by unfold maxLen; omega) (by omega) (by simp; omega) ?_)
            intro v6 w6 hown hgrow _
            have hsz4 : (w5.alloc (.cells #[.string x] 9 (0, 0))).heap.size = w5.heap.size + 1 := by simp
            have HB6 : Hid (Below w.heap.size w w6) := (HB3.out.alloc hws _).grown hgrow (by rw [hsz4]; omega) fun k hk => (World.ownsRow.lt HOW3.out k hk).1
            have HO6 : Hid (w6.ownsRow w.heap.size 9 1 v6 (selS ns q (k + 1)).length ((selS ns q (k + 1)).map Value.string)) := by unfold Hid; rw [HSU.out, List.map_append, List.length_append]; exact hown
            clear hown hgrow hsz4 hc3
            go_wp2_with fail
            go_roundg (ns.length - (k + 1))
            case measure => omega
            case rel => exact ⟨k + 1, by go_num, by omega, rfl, HO6.out, HB6.out⟩
          · have hqf : q k = false := by simpa using hqk
            rw [hqf] at HAS HSU
            have HO6 : Hid (w3.ownsRow w.heap.size 9 1 (.slice a5 (selS ns q k).length c5) (selS ns q (k + 1)).length ((selS ns q (k + 1)).map Value.string)) := by unfold Hid; rw [HSU.out, if_neg (by simp), List.append_nil]; exact HOW3.out
            clear hqk hqf HQK HSU
            as_aux_lemma =>
            go_wp2_with fail
            refine HAS.out.mono ?_
            rintro e w5 ⟨rfl, rfl⟩
            go_wp2_with fail
            go_roundg (ns.length - (k + 1))
            case measure => omega
            case rel => exact ⟨k + 1, by go_num, by omega, rfl, HO6.out, HB3.out⟩
        · have he : k = ns.length := by omega
          subst he
          have SC2 := Lib.hid (SC.out _ wr (StrsAt.of_row HOWN.out))
          clear SC AB1 HTL
          as_aux_lemma =>
          go_wp2_with fail
          refine SC2.out.mono ?_
          rintro e w3 ⟨v, ss, rfl, hs, hd, hb⟩
          have HS := Lib.hid hs
          have HD := Lib.hid hd
          have HB3 := Lib.hid (HBR.out.trans (hb.mono HBR.out.size))
          clear hs hd hb
          go_wp2_with fail
          go_ret
          exact ⟨_, ss, rfl, HS.out, by rw [HV.out]; exact HD.out, HB3.out⟩
    · have HV : Hid (belowF (grO ns) b.data.toList = []) := by unfold Hid belowF reachF; rw [if_neg (by simp [h1]), if_neg hb]
      have FA1 : ∀ W, Below w.heap.size w W → Hid (Calls Tryz.prog 31 #[.slice ao ns.length cap, .string b] W fun e w' => e = .returned (.int .i64 (-1)) ∧ w' = W) := fun W hW => by
        have := (FA W hW).out
        rw [find_miss hb] at this
        exact this
      rw [h1] at HF
      clear h1 hb AB FA
      as_aux_lemma =>
      go_wp2_with fail
      refine HF.out.mono ?_
      rintro e w1 ⟨rfl, hb⟩
      have HB := Lib.hid hb
      have FA2 := FA1 w1 hb
      clear hb HF FA1
      go_wp2_with fail
      refine FA2.out.mono ?_
      rintro e w2 ⟨rfl, rfl⟩
      go_wp2_with fail
      go_ret
      exact ⟨_, [], rfl, .inl ⟨_, _, rfl, rfl⟩, by rw [HV.out]; rfl, HB.out⟩
  · have HV : Hid (belowF (grO ns) b.data.toList = []) := by unfold Hid belowF; rw [if_pos h1]
    have h2i : (((formedF (grO ns) : Nat) : Int) != 0) = true := by simp; exact h1
    clear h1 AB FA
    generalize formedF (grO ns) = fo at *
    as_aux_lemma =>
    go_wp2_with fail
    refine HF.out.mono ?_
    rintro e w1 ⟨rfl, hb⟩
    have HB := Lib.hid hb
    clear hb HF
    go_wp2_with fail
    go_ret
    exact ⟨_, [], rfl, .inl ⟨_, _, rfl, rfl⟩, by rw [HV.out]; rfl, HB.out⟩

set_option maxRecDepth 100000 in
set_option maxHeartbeats 3200000 in
theorem rReady_any (nv dv : Value) (ns : List Nd) (ds : List ByteArray) (hl : ns.length ≤ 1000) (hdl : ds.length ≤ 1000000000) (hnl : ∀ x ∈ ns, x.needs.length ≤ 9223372036854775807) (w : World) (h : NdAt w nv ns) (hd0 : StrsAt w dv ds) : Calls Tryz.prog 26 #[nv, dv] w (StrPost (readyF (grO ns) (dts ds)) w) := by
  have HF := Lib.hid (rformed_any nv ns (by omega) hnl w h)
  have H := Lib.hid h
  have HD0 := Lib.hid hd0
  have HNN := Lib.hid hnl
  obtain ⟨ao, cap, rfl⟩ := h.sl.form
  obtain ⟨dao, dcap, rfl⟩ := hd0.form
  obtain ⟨i9, hi9⟩ := Tryz.info9'
  have HI := Lib.hid hi9
  have HL := Lib.hid (grO_len ns)
  clear h hnl hi9 hd0
  go_enter Tryz.func26, Tryz.ntmps26
  by_cases h1 : formedF (grO ns) = 0
  · have HV : Hid (readyF (grO ns) (dts ds) = sortF (dts (selS ns (rdyB (grO ns) (dts ds)) ns.length))) := by
      unfold Hid readyF
      rw [if_neg (by simp [h1]), selS_dts ns _ (Nat.le_refl _)]
      unfold readyL selG
      rw [HL.out]
    have HS := formed_sound h1
    have SC : Hid (∀ v W, StrsAt W v (selS ns (rdyB (grO ns) (dts ds)) ns.length) → Calls Tryz.prog 48 #[v] W (StrPost (sortF (dts (selS ns (rdyB (grO ns) (dts ds)) ns.length))) W)) := fun v W hs => sort_call HS hl (by rw [selS_dts ns _ (Nat.le_refl _)]; exact sel_in (by rw [HL.out]; exact Nat.le_refl _)) (by rw [selS_dts ns _ (Nat.le_refl _)]; exact sel_nodup HS (by rw [HL.out]; exact Nat.le_refl _)) W hs
    rw [h1] at HF
    clear h1 HS
    generalize hq : rdyB (grO ns) (dts ds) = q at *
    have HQ := Lib.hid hq
    clear hq
    go_wp2_with fail
    refine HF.out.mono ?_
    rintro e w1 ⟨rfl, hb⟩
    have HB := Lib.hid hb
    clear hb HF
    go_wp2_with fail
    go_loopg [5, 6] ns.length (SelRel w ns q)
    case atStart => exact ⟨0, rfl, Nat.zero_le _, rfl, World.ownsRow_nil _ _ _ _, HB.out⟩
    case round =>
      obtain ⟨k, rfl, hk, rfl, hown, hbr⟩ := hrel
      have HOWN := Lib.hid hown
      have HBR := Lib.hid hbr
      have hsl := selS_len ns q k
      obtain ⟨a5, c5, rfl⟩ := ownsRow_form hown
      clear hown hbr HB
      by_cases hlt : k < ns.length
      · have hki : ((k : Nat) : Int) < (ns.length : Int) := by omega
        have HSU := Lib.hid (selS_succ ns q k)
        obtain ⟨nb, noff, rfl, hnb, hc, hc1, hsx⟩ := (H.out.below HBR.out).at2 hlt
        have HQK : Hid (q k = (!decide ((ns.getD k default).id.data.toList ∈ dts ds) && (dts (ns.getD k default).needs).all fun b => decide (b ∈ dts ds))) := by unfold Hid; rw [← HQ.out]; unfold rdyB; rw [grO_id ns hlt, grO_need ns hlt]
        have HAS := Lib.hid (has_any _ ds (ns.getD k default).id (by omega) wr (HD0.out.below HBR.out))
        have HWI := Lib.hid (within_any _ _ (ns.getD k default).needs ds (HNN.out (ns.getD k default) (by rw [List.getD, List.getElem?_eq_getElem hlt]; exact List.getElem_mem hlt)) (by omega) wr hsx (HD0.out.below HBR.out))
        obtain ⟨xao, xcap, hxe⟩ := hsx.form
        rw [hxe] at hc1 HWI
        clear hxe hsx
        generalize (ns.getD k default).id = x at *
        generalize (ns.getD k default).needs = nl at *
        have hws := HBR.out.size
        cases hA : decide (x.data.toList ∈ dts ds) with
        | true =>
          rw [hA] at HAS HQK
          have HO6 : Hid (wr.ownsRow w.heap.size 9 1 (.slice a5 (selS ns q k).length c5) (selS ns q (k + 1)).length ((selS ns q (k + 1)).map Value.string)) := by unfold Hid; rw [HSU.out, if_neg (by rw [HQK.out]; simp), List.append_nil]; exact HOWN.out
          clear hA HWI HQK HSU
          as_aux_lemma =>
          go_wp2_with fail
          refine HAS.out.mono ?_
          rintro e w5 ⟨rfl, rfl⟩
          go_wp2_with fail
          go_roundg (ns.length - (k + 1))
          case measure => omega
          case rel => exact ⟨k + 1, by go_num, by omega, rfl, HO6.out, HBR.out⟩
        | false =>
          rw [hA] at HAS HQK
          clear hA
          cases hW : ((dts nl).all fun b => decide (b ∈ dts ds)) with
          | true =>
            rw [hW] at HWI HQK
            rw [HQK.out, if_pos (by rfl)] at HSU
            clear hW HQK
            as_aux_lemma =>
            go_wp2_with fail
            refine HAS.out.mono ?_
            rintro e w4 ⟨rfl, rfl⟩
            go_wp2_with fail
            refine HWI.out.mono ?_
            rintro e w5 ⟨rfl, rfl⟩
            go_wp2_with (at_builtin; refine wpList_append2 rfl _ _ 35 rfl w.heap.size 9 i9 (.string ByteArray.empty) 1 16 Tryz.underlying35 HI.out rfl (by decide) _ _ _ rfl (World.ownsRow.alloc HOWN.out _) ⟨w5.heap.size, 0, none⟩ 1 1 [.string x] rfl rfl (cells_newAt rfl _ 9 (0, 0)) rfl (by unfold maxLen; omega) (by omega) (by simp; omega) ?_)
            intro v6 w6 hown hgrow _
            have hsz4 : (w5.alloc (.cells #[.string x] 9 (0, 0))).heap.size = w5.heap.size + 1 := by simp
            have HB6 : Hid (Below w.heap.size w w6) := (HBR.out.alloc hws _).grown hgrow (by rw [hsz4]; omega) fun k hk => (World.ownsRow.lt HOWN.out k hk).1
            have HO6 : Hid (w6.ownsRow w.heap.size 9 1 v6 (selS ns q (k + 1)).length ((selS ns q (k + 1)).map Value.string)) := by unfold Hid; rw [HSU.out, List.map_append, List.length_append]; exact hown
            clear hown hgrow hsz4 hc hc1
            go_wp2_with fail
            go_roundg (ns.length - (k + 1))
            case measure => omega
            case rel => exact ⟨k + 1, by go_num, by omega, rfl, HO6.out, HB6.out⟩
          | false =>
            rw [hW] at HWI HQK
            have HO6 : Hid (wr.ownsRow w.heap.size 9 1 (.slice a5 (selS ns q k).length c5) (selS ns q (k + 1)).length ((selS ns q (k + 1)).map Value.string)) := by unfold Hid; rw [HSU.out, if_neg (by rw [HQK.out]; simp), List.append_nil]; exact HOWN.out
            clear hW HQK HSU
            as_aux_lemma =>
            go_wp2_with fail
            refine HAS.out.mono ?_
            rintro e w4 ⟨rfl, rfl⟩
            go_wp2_with fail
            refine HWI.out.mono ?_
            rintro e w5 ⟨rfl, rfl⟩
            go_wp2_with fail
            go_roundg (ns.length - (k + 1))
            case measure => omega
            case rel => exact ⟨k + 1, by go_num, by omega, rfl, HO6.out, HBR.out⟩
      · have he : k = ns.length := by omega
        subst he
        have SC2 := Lib.hid (SC.out _ wr (StrsAt.of_row HOWN.out))
        clear SC
        as_aux_lemma =>
        go_wp2_with fail
        refine SC2.out.mono ?_
        rintro e w3 ⟨v, ss, rfl, hs, hd, hb⟩
        have HS := Lib.hid hs
        have HD := Lib.hid hd
        have HB3 := Lib.hid (HBR.out.trans (hb.mono HBR.out.size))
        clear hs hd hb
        go_wp2_with fail
        go_ret
        exact ⟨_, ss, rfl, HS.out, by rw [HV.out]; exact HD.out, HB3.out⟩
  · have HV : Hid (readyF (grO ns) (dts ds) = []) := by unfold Hid readyF; rw [if_pos h1]
    have h2i : (((formedF (grO ns) : Nat) : Int) != 0) = true := by simp; exact h1
    clear h1
    generalize formedF (grO ns) = fo at *
    as_aux_lemma =>
    go_wp2_with fail
    refine HF.out.mono ?_
    rintro e w1 ⟨rfl, hb⟩
    have HB := Lib.hid hb
    clear hb HF
    go_wp2_with fail
    go_ret
    exact ⟨_, [], rfl, .inl ⟨_, _, rfl, rfl⟩, by rw [HV.out]; rfl, HB.out⟩
theorem above_len (G : Gr) (b : Bs) (hl : G.length ≤ 1000000) : (aboveF G b).length ≤ 1000000 := by
  by_cases hf : formedF G = 0
  · have hs := formed_sound hf
    have h1 : (aboveF G b).Nodup := by
      unfold aboveF reachF
      rw [if_neg (by simp [hf])]
      split
      · exact (sortF_asc _).1.imp fun hlt e => by subst e; exact lt_irr hlt
      · exact List.nodup_nil
    have := nodup_le (idsG G) _ h1 (fun q hq => (mem_aboveF.1 hq).2.2.1)
    rw [ids_len] at this
    omega
  · unfold aboveF; rw [if_pos hf]; simp
theorem below_len (G : Gr) (b : Bs) (hl : G.length ≤ 1000000) : (belowF G b).length ≤ 1000000 := by
  by_cases hf : formedF G = 0
  · have hs := formed_sound hf
    have h1 : (belowF G b).Nodup := by
      unfold belowF reachF
      rw [if_neg (by simp [hf])]
      split
      · exact (sortF_asc _).1.imp fun hlt e => by subst e; exact lt_irr hlt
      · exact List.nodup_nil
    have := nodup_le (idsG G) _ h1 (fun q hq => (mem_belowF.1 hq).2.2.1)
    rw [ids_len] at this
    omega
  · unfold belowF; rw [if_pos hf]; simp

theorem ready_len (G : Gr) (D : List Bs) (hl : G.length ≤ 1000000) : (readyF G D).length ≤ 1000000 := by
  unfold readyF
  by_cases hf : formedF G = 0
  · have hs := formed_sound hf
    rw [if_neg (show ¬ formedF G ≠ 0 by simp [hf])]
    have h1 : (sortF (readyL G D)).Nodup := (sortF_asc _).1.imp fun hlt e => by subst e; exact lt_irr hlt
    have := nodup_le (idsG G) _ h1 (fun q hq => by
      have hq2 := ((sortF_asc _).2 q).1 hq
      unfold readyL at hq2
      obtain ⟨i, hi, rfl⟩ := List.mem_map.1 hq2
      exact idA_mem (List.mem_range.1 (List.mem_filter.1 hi).1))
    rw [ids_len] at this
    omega
  · rw [if_pos hf]; simp
/-- two lists of strings that read alike -/
theorem same_call (r s : Value) (xs ys : List ByteArray) (L : List Bs) (hx : dts xs = L) (hy : dts ys = L) (hl : L.length ≤ 1000000) (W : World) (h1 : StrsAt W r xs) (h2 : StrsAt W s ys) : Calls Tryz.prog 18 #[r, s] W fun e w' => e = .returned (.bool true) ∧ Below W.heap.size W w' := by
  have hxl : xs.length ≤ 1000000 := by rw [← dts_len, hx]; exact hl
  refine (rsame_any r s xs ys hxl W h1 h2).mono ?_
  rintro e w' ⟨rfl, hb⟩
  exact ⟨by rw [hx, hy, decide_eq_true rfl], hb⟩
end Go.Proofs.YtfegmmafcopbpaaGreatDoor
