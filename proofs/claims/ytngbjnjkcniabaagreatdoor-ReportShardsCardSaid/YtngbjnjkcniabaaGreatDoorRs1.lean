/- The walk over the reference's Sorted. -/
import Derived.Test.YtngbjnjkcniabaaGreatDoorNw4
import Derived.Test.YtngbjnjkcniabaaGreatDoorNw3b
import Derived.StillTailTactics
import Derived.BigQuiet
namespace Go.Proofs.YtngbjnjkcniabaaGreatDoor
open Go.RowKit

theorem tl_eq (x y : ByteArray) : (x.toList == y.toList) = decide (x = y) := by
  rw [Bool.eq_iff_iff, beq_iff_eq, decide_eq_true_eq, Lib.toList_data, Lib.toList_data]
  exact ⟨fun h => by rw [← Lib.mk_data x, h, Lib.mk_data], fun h => by rw [h]⟩
abbrev datas (ss : List ByteArray) : List Bs := ss.map (·.data.toList)
theorem getD_datas (ss : List ByteArray) {i : Nat} (h : i < ss.length) : (datas ss).getD i [] = (ss.getD i ByteArray.empty).data.toList := by
  rw [List.getD, List.getD, List.getElem?_map, List.getElem?_eq_getElem h]; rfl

def SRow (w : World) (base : Nat) (v : Value) (L : List ByteArray) : Prop := w.ownsRow base 9 1 v L.length (L.map Value.string)
theorem SRow.at {w : World} {base : Nat} {v : Value} {L : List ByteArray} (h : SRow w base v L) : StrsAt w v L := StrsAt.of_row h
theorem SRow.below {w w1 : World} {base : Nat} {v : Value} {L : List ByteArray} (h : SRow w base v L) (hb : Below w.heap.size w w1) : SRow w1 base v L := ownsRow_below h hb

theorem strs_one (l : List ByteArray) : ((l.map Value.string).all fun v => v.oneCell') = true := by
  rw [List.all_eq_true]
  intro y hy
  obtain ⟨s, _, rfl⟩ := List.mem_map.1 hy
  rfl

theorem strs_cells {w : World} {rb roff n cap : Nat} {ss : List ByteArray} (h : StrsAt w (.slice (some ⟨rb, roff, none⟩) n cap) ss) (a m : Nat) (ham : a + m ≤ ss.length) : ∀ (j : Nat) (u : Value), (((ss.drop a).take m).map Value.string)[j]? = some u → w.cell? ((⟨rb, roff + a, none⟩ : Addr).add j) = some u := by
  intro j u hj
  have hjm : j < m ∧ a + j < ss.length := by
    have := (List.getElem?_eq_some_iff.1 hj).1
    simp at this
    omega
  obtain ⟨b, off, e, _, hc⟩ := h.at_ hjm.2
  injection e with e
  injection e with e1 e2
  subst e1 e2
  rw [Addr.add_lit, Nat.add_assoc, hc]
  rw [List.getElem?_map, List.getElem?_take, if_pos hjm.1, List.getElem?_drop, List.getElem?_eq_getElem hjm.2] at hj
  rw [List.getD, List.getElem?_eq_getElem hjm.2]
  exact hj

def RSortRel (w1 : World) (ss : List ByteArray) (f : Nat) (t3 t4 : Value) (wr : World) : Prop :=
  ∃ (k : Nat) (L : List ByteArray), t4 = .int .i64 (k : Nat) ∧ k ≤ ss.length ∧ f = ss.length - k ∧ datas L = sortTo (datas ss) k ∧ SRow wr w1.heap.size t3 L ∧ Below w1.heap.size w1 wr

def RAtRel (w1 : World) (x : Bs) (L : List ByteArray) (f : Nat) (t5 : Value) (wr : World) : Prop :=
  ∃ j : Nat, t5 = .int .i64 (j : Nat) ∧ j ≤ L.length ∧ j = f ∧ atT x (datas L) L.length = atT x (datas L) j ∧ Below w1.heap.size w1 wr

set_option maxRecDepth 100000 in
set_option maxHeartbeats 3200000 in
theorem rsorted_any (v : Value) (ss : List ByteArray) (hl : ss.length ≤ 1000) (hsz : ∀ s ∈ ss, s.size ≤ 9223372036854775807) (w : World) (h : StrsAt w v ss) : Calls Tryz.prog 40 #[v] w (SortPost (datas ss) w) := by
  obtain ⟨ao, cap, rfl⟩ := h.form
  have H := Lib.hid h
  have HSZ : Hid (∀ j, j < ss.length → (ss.getD j ByteArray.empty).size ≤ 9223372036854775807) := fun j hj => by
    rw [List.getD, List.getElem?_eq_getElem hj]; exact hsz _ (List.getElem_mem hj)
  have HMEM : Hid (∀ k, k ≤ ss.length → ∀ L : List ByteArray, datas L = sortTo (datas ss) k → L.length ≤ k ∧ ∀ s ∈ L, s.size ≤ 9223372036854775807) := by
    intro k hk L hL
    have h1 := sortTo_len (datas ss) k
    rw [← hL, List.length_map] at h1
    refine ⟨h1, fun s hs => ?_⟩
    have h2 := (sortTo_asc (datas ss) k (by rw [List.length_map]; exact hk)).2 s.data.toList
    rw [← hL] at h2
    have h3 := h2.1 (List.mem_map.2 ⟨s, hs, rfl⟩)
    obtain ⟨t, ht, e⟩ := List.mem_map.1 (List.mem_of_mem_take h3)
    rw [Lib.size_eq, ← e, ← Lib.size_eq]
    exact hsz t ht
  clear h hsz
  go_enter Tryz.func40, Tryz.ntmps40
  go_wp2_with fail
  go_loopg [3, 4] ss.length (RSortRel w ss)
  case atStart => exact ⟨0, [], rfl, Nat.zero_le _, rfl, rfl, ⟨rfl, .inl ⟨rfl, rfl⟩⟩, Below.refl _ _⟩
  case round =>
    obtain ⟨k, L, rfl, hk, rfl, hL, hrow, hbel⟩ := hrel
    generalize wr = wo at *
    have HL := Lib.hid hL
    have HR := Lib.hid hrow
    have HB := Lib.hid hbel
    have hLl := (HMEM.out k hk L hL).1
    have HLS := Lib.hid ((HMEM.out k hk L hL).2)
    obtain ⟨ro, rcap, rfl⟩ := ownsRow_form hrow
    clear hL hrow hbel
    by_cases hlt : k < ss.length
    · have hii : (k : Int) < (ss.length : Int) := by omega
      obtain ⟨b, off, rfl, hbl0, hc0⟩ := H.out.at_ hlt
      have HCX : Hid (∀ W, Below w.heap.size w W → W.cell? ⟨b, off + k, none⟩ = some (.string (ss.getD k ByteArray.empty))) := fun W hW => (hW.cell (p := ⟨b, off + k, none⟩) hbl0).trans hc0
      have HXS := Lib.hid (HSZ.out k hlt)
      have HST : Hid (sortTo (datas ss) (k + 1) = insR (ss.getD k ByteArray.empty).data.toList (datas L)) := by
        unfold Hid; rw [sortTo, ← HL.out, getD_datas ss hlt]
      clear hc0
      generalize ss.getD k ByteArray.empty = x at *
      go_upto_block 2 with fail
      go_cut [5] (fun s5 wx => s5 = .int .i64 (atT x.data.toList (datas L) L.length : Nat) ∧ Below wo.heap.size wo wx)
      case first =>
        go_wp2_with fail
        go_loopg [5] L.length (RAtRel wo x.data.toList L)
        case atStart => exact ⟨L.length, rfl, Nat.le_refl _, rfl, rfl, Below.refl _ _⟩
        case round =>
          obtain ⟨j, rfl, hj, hjf, hat, hbel⟩ := hrel
          subst hjf
          have HAT := Lib.hid hat
          have HB2 := Lib.hid hbel
          clear hat hbel
          have HCX2 := HCX.out wr (HB.out.trans (HB2.out.mono HB.out.size))
          by_cases hj0 : 0 < j
          · have hj1 : (1 : Int) ≤ (j : Int) := by omega
            have hji : (0 : Int) < (j : Int) := by omega
            have hjl : (j : Int) - 1 < (L.length : Int) := by omega
            have q1 : IntKind.i64.wrap ((j : Int) - 1) = (j : Int) - 1 := IntWalk.i64_in _ (by omega)
            have q2 : (0 : Int) ≤ (j : Int) - 1 := by omega
            have q3 : ((j : Int) - 1).toNat = j - 1 := by omega
            obtain ⟨rb, roff, rfl, hrb, hrc⟩ := (HR.out.at.below HB2.out).at_ (show j - 1 < L.length by omega)
            have HAJ : Hid (atT x.data.toList (datas L) j = if natC x.data.toList (L.getD (j - 1) ByteArray.empty).data.toList < 0 then atT x.data.toList (datas L) (j - 1) else j) := by
              unfold Hid
              obtain ⟨i, rfl⟩ : ∃ i, j = i + 1 := ⟨j - 1, by omega⟩
              rw [atT, Nat.add_sub_cancel, getD_datas L (by omega)]
            have CM := fun W => Lib.hid (rcompare_any x (L.getD (j - 1) ByteArray.empty) HXS.out (HLS.out _ (by rw [List.getD, List.getElem?_eq_getElem (show j - 1 < L.length by omega)]; exact List.getElem_mem _)) W)
            generalize L.getD (j - 1) ByteArray.empty = y at *
            go_upto_region 6 with fail
            go_still_tail 12, (by kernel_rfl)
            change wpList _ _ _ _ _ (World.drew _)
            go_wp2_with fail
            refine (CM _).out.mono ?_
            rintro e w5 ⟨rfl, hu⟩
            have HB5 := Lib.hid (HB2.out.trans ((Below.refl wr.heap.size wr).drew.trans (hu.b.mono (Nat.le_refl _)) |>.mono HB2.out.size))
            clear hu CM
            generalize natC x.data.toList y.data.toList = q at *
            by_cases hq : q < 0
            · have HF : Hid (atT x.data.toList (datas L) L.length = atT x.data.toList (datas L) (j - 1)) := by unfold Hid; rw [HAT.out, HAJ.out, if_pos hq]
              clear HAJ
              as_aux_lemma =>
              go_wp2_with fail
              go_roundg (j - 1)
              case measure => omega
              case rel => exact ⟨j - 1, by first | rfl | go_num, by omega, rfl, HF.out, HB5.out⟩
            · have HF : Hid (atT x.data.toList (datas L) L.length = j) := by unfold Hid; rw [HAT.out, HAJ.out, if_neg hq]
              have hq1 : decide (q < 0) = false := by simp; omega
              clear HAJ hq
              as_aux_lemma =>
              go_wp2_with fail
              go_meet
              case rel => exact ⟨by rw [HF.out], HB5.out⟩
          · have hj1 : j = 0 := by omega
            subst hj1
            have HF : Hid (atT x.data.toList (datas L) L.length = 0) := by unfold Hid; rw [HAT.out]; rfl
            as_aux_lemma =>
            go_upto_region 6 with fail
            go_quiet (fail)
            go_wp2_with fail
            go_meet
            case rel => exact ⟨by rw [HF.out], HB2.out.trans ⟨rfl, rfl, rfl, Nat.le_refl _, fun _ _ => rfl⟩⟩
      case rest =>
        obtain ⟨rfl, hbc⟩ := hcut
        have HBC := Lib.hid hbc
        have hle := atT_le x.data.toList (datas L) L.length
        have HINS : Hid (sortTo (datas ss) (k + 1) = if 0 < atT x.data.toList (datas L) L.length ∧ (datas L).getD (atT x.data.toList (datas L) L.length - 1) [] = x.data.toList then datas L else (datas L).take (atT x.data.toList (datas L) L.length) ++ x.data.toList :: (datas L).drop (atT x.data.toList (datas L) L.length)) := by
          unfold Hid
          rw [HST.out, insR, List.length_map]
        clear hbc HST
        generalize atT x.data.toList (datas L) L.length = a at *
        have HAT := Lib.hid (HR.out.at.below HBC.out)
        have HCXC := HCX.out wc (HB.out.trans (HBC.out.mono HB.out.size))
        have HBW := Lib.hid (HB.out.trans (HBC.out.mono HB.out.size))
        have HRC := Lib.hid (HR.out.below HBC.out)
        by_cases hdup : 0 < a ∧ (datas L).getD (a - 1) [] = x.data.toList
        · obtain ⟨ha0, hdx⟩ := hdup
          rw [getD_datas L (by omega)] at hdx
          have hlt' : a - 1 < L.length := by omega
          obtain ⟨rb, roff, rfl, hrb, hrc⟩ := HAT.out.at_ hlt'
          have hyx : L.getD (a - 1) ByteArray.empty = x := by rw [← Lib.mk_data (L.getD (a - 1) ByteArray.empty), hdx, Lib.mk_data]
          rw [hyx] at hrc
          have HF : Hid (datas L = sortTo (datas ss) (k + 1)) := by unfold Hid; rw [HINS.out, if_pos ⟨ha0, by rw [getD_datas L hlt']; exact hdx⟩]
          have ha1 : (1 : Int) ≤ (a : Int) := by omega
          have hai : (0 : Int) < (a : Int) := by omega
          have hal : (a : Int) - 1 < (L.length : Int) := by omega
          have q1 : IntKind.i64.wrap ((a : Int) - 1) = (a : Int) - 1 := IntWalk.i64_in _ (by omega)
          have q2 : (0 : Int) ≤ (a : Int) - 1 := by omega
          have q3 : ((a : Int) - 1).toNat = a - 1 := by omega
          have hxx : (x.toList == x.toList) = true := beq_self_eq_true _
          clear HINS hdx hyx HCX
          as_aux_lemma =>
          go_upto_region 8 with fail
          go_quiet (fail)
          go_wp2_with fail
          go_roundg (ss.length - (k + 1))
          case measure => omega
          case rel => exact ⟨k + 1, L, by go_num, by omega, rfl, HF.out, HRC.out.below ⟨rfl, rfl, rfl, Nat.le_refl _, fun _ _ => rfl⟩, HBW.out.trans ⟨rfl, rfl, rfl, Nat.le_refl _, fun _ _ => rfl⟩⟩
        · have HF : Hid (datas (L.take a ++ x :: L.drop a) = sortTo (datas ss) (k + 1)) := by
            unfold Hid
            rw [HINS.out, if_neg hdup]
            unfold datas
            rw [List.map_append, List.map_cons, List.map_take, List.map_drop]
          have HMS := Lib.hid ((HMEM.out (k + 1) (by omega) _ HF.out).1)
          clear HINS HR
          generalize wc = w2 at *
          go_upto_region 8 with fail
          go_cut [45] (fun s45 wx => s45 = .bool false ∧ Below w2.heap.size w2 wx)
          case first =>
            by_cases ha0 : 0 < a
            · have hlt' : a - 1 < L.length := by omega
              obtain ⟨rb, roff, rfl, hrb, hrc⟩ := HAT.out.at_ hlt'
              have hyx : ¬ L.getD (a - 1) ByteArray.empty = x := fun e => hdup ⟨ha0, by rw [getD_datas L hlt', e]⟩
              generalize L.getD (a - 1) ByteArray.empty = y at *
              have ha1 : (1 : Int) ≤ (a : Int) := by omega
              have hai : (0 : Int) < (a : Int) := by omega
              have hal : (a : Int) - 1 < (L.length : Int) := by omega
              have q1 : IntKind.i64.wrap ((a : Int) - 1) = (a : Int) - 1 := IntWalk.i64_in _ (by omega)
              have q2 : (0 : Int) ≤ (a : Int) - 1 := by omega
              have q3 : ((a : Int) - 1).toNat = a - 1 := by omega
              have hxx : (y.toList == x.toList) = false := by rw [tl_eq, decide_eq_false hyx]
              clear hdup hyx
              as_aux_lemma =>
              go_upto_region 8 with fail
              go_quiet (fail)
              go_wp2_with fail
              go_meet
              case rel => exact ⟨rfl, ⟨rfl, rfl, rfl, Nat.le_refl _, fun _ _ => rfl⟩⟩
            · have ha1 : a = 0 := by omega
              subst ha1
              clear hdup
              as_aux_lemma =>
              go_upto_region 8 with fail
              go_quiet (fail)
              go_wp2_with fail
              go_meet
              case rel => exact ⟨rfl, ⟨rfl, rfl, rfl, Nat.le_refl _, fun _ _ => rfl⟩⟩
          case rest =>
            obtain ⟨rfl, hcut⟩ := hcut
            have HBD := Lib.hid (HBW.out.trans (hcut.mono HBW.out.size))
            have HAD := Lib.hid (HAT.out.below hcut)
            have HRD := Lib.hid (HRC.out.below hcut)
            clear hcut HAT HRC HBW HBC HCXC hdup
            generalize wc = wd at *
            obtain ⟨i9, hi9⟩ := Tryz.info9'
            have HI := Lib.hid hi9
            have hrc0 : L.length ≤ rcap ∧ (ro = none → L = []) ∧ (∀ ad, ro = some ad → ∃ g, ad = ⟨g, 0, none⟩) := by
              rcases HRD.out.2 with ⟨e, h0⟩ | ⟨g, c, cur, e, _, _, hn, _⟩
              · injection e with e1 e2 e3
                subst e1
                exact ⟨by omega, fun _ => List.length_eq_zero_iff.1 h0, fun ad h => absurd h (by simp)⟩
              · injection e with e1 e2 e3
                subst e1 e3
                exact ⟨hn, fun h => absurd h (by simp), fun ad h => ⟨g, (Option.some.inj h).symm⟩⟩
            obtain ⟨hrcl, hron, hros⟩ := hrc0
            have hLk : L.length ≤ 1000 := by omega
            have hal : (a : Int) ≤ (rcap : Int) := by omega
            have hal2 : (a : Int) ≤ (L.length : Int) := by omega
            have htl : (L.take a).length = a := by rw [List.length_take]; omega
            have HRON := Lib.hid hron
            have HROS := Lib.hid hros
            clear hi9 hron hros HRD
            go_upto_region 9 with fail
            go_cut [6] (fun s6 wx => SRow wx wd.heap.size s6 (L.take a) ∧ Below wd.heap.size wd wx)
            case first =>
              cases ro with
              | none =>
                have h0 := HRON.out rfl
                subst h0
                have ha0 : a = 0 := by simpa using hle
                subst ha0
                as_aux_lemma =>
                go_wp2_with fail
                go_meet
                case rel => exact ⟨World.ownsRow_made wd #[] 0 (Nat.le_refl _) (Nat.zero_le _) rfl, (Below.refl _ _).alloc (Nat.le_refl _) _⟩
              | some ad =>
                obtain ⟨g, rfl⟩ := HROS.out ad rfl
                have HCE : Hid (∀ (j : Nat) (u : Value), ((L.take a).map Value.string)[j]? = some u → (wd.alloc (.cells #[] 9)).cell? ((⟨g, 0, none⟩ : Addr).add j) = some u) := fun j u hj => Lib.cell?_alloc_some _ (by
                  have := strs_cells HAD.out 0 a (by omega) j u (by simpa using hj)
                  simpa using this)
                have hnl : ((L.take a).map Value.string).length = a * 1 := by rw [List.length_map, htl, Nat.mul_one]
                as_aux_lemma =>
                go_wp2_with (at_builtin; refine wpList_append2 rfl _ _ 36 rfl wd.heap.size 9 i9 (.string ByteArray.empty) 1 16 Tryz.underlying36 HI.out rfl (by decide) _ 0 [] rfl (World.ownsRow_made wd #[] 0 (Nat.le_refl _) (Nat.zero_le _) rfl) ⟨g, 0, none⟩ a rcap ((L.take a).map Value.string) rfl hnl HCE.out (strs_one _) (by unfold maxLen; omega) (by omega) (by simp) ?_)
                intro v' w3 hown hgrow hwh
                obtain ⟨ao', cap', rfl⟩ := ownsRow_form hown
                have HOWN := Lib.hid hown
                have HBG := Lib.hid (((Below.refl wd.heap.size wd).alloc (Nat.le_refl _) (.cells #[] 9)).grown hgrow (by simp) (by intro k hk; simp [Value.ownBlock] at hk; omega))
                clear hown hgrow hwh
                go_wp2_with fail
                go_meet
                case rel => exact ⟨by unfold SRow; rw [htl]; simpa using HOWN.out, HBG.out⟩
            case rest =>
              obtain ⟨h6, hb6⟩ := hcut
              have HB6 := Lib.hid hb6
              obtain ⟨o6, c6, rfl⟩ := ownsRow_form h6
              have H6 : Hid (wc.ownsRow wd.heap.size 9 1 (.slice o6 a c6) a ((L.take a).map Value.string)) := by
                have := h6
                unfold SRow at this
                rw [htl] at this
                exact this
              rw [htl]
              have hcx := HCX.out wc (HBD.out.trans (hb6.mono HBD.out.size))
              have hz6 := hb6.size
              clear h6 hb6
              generalize wc = we at *
              go_upto_region 10 with fail
              go_cut [6] (fun s6 wx => wx.ownsRow wd.heap.size 9 1 s6 (a + 1) ((L.take a).map Value.string ++ [.string x]) ∧ Below wd.heap.size wd wx)
              case first =>
                as_aux_lemma =>
                go_wp2_with (at_builtin; refine wpList_append2 rfl _ _ 36 rfl wd.heap.size 9 i9 (.string ByteArray.empty) 1 16 Tryz.underlying36 HI.out rfl (by decide) _ _ _ rfl (H6.out.alloc _) ⟨we.heap.size, 0, none⟩ 1 1 [.string x] rfl rfl (cells_newAt rfl _ 9 (0, 0)) rfl (by unfold maxLen; omega) (by omega) (by simp; omega) ?_)
                intro v' w3 hown hgrow hwh
                obtain ⟨ao', cap', rfl⟩ := ownsRow_form hown
                have HOWN := Lib.hid hown
                have HBG := Lib.hid ((HB6.out.alloc HB6.out.size _).grown hgrow (by simp; omega) (fun j hj => (H6.out.lt j hj).1))
                clear hown hgrow hwh
                go_wp2_with fail
                go_meet
                case rel => exact ⟨by rw [List.map_take]; exact HOWN.out, HBG.out⟩
              case rest =>
                obtain ⟨h7, hb7⟩ := hcut
                have H7 := Lib.hid h7
                have HB7 := Lib.hid hb7
                obtain ⟨o7, c7, rfl⟩ := ownsRow_form h7
                have HAE := Lib.hid (HAD.out.below hb7)
                have hz7 := hb7.size
                clear h7 hb7 H6 HB6 hcx hz6
                generalize wc = wf at *
                go_upto_region 11 with fail
                have hz0 := HBD.out.size
                obtain ⟨g7, rfl, hc7⟩ : ∃ g7, o7 = some ⟨g7, 0, none⟩ ∧ a + 1 ≤ c7 := by
                  rcases H7.out.2 with ⟨_, h0⟩ | ⟨g7, c, cur, e, _, _, hn, _⟩
                  · omega
                  · injection e with e1 e2 e3
                    subst e3
                    exact ⟨g7, e1, hn⟩
                cases ro with
                | none =>
                  have h0 := HRON.out rfl
                  subst h0
                  have ha0 : a = 0 := by simpa using hle
                  subst ha0
                  have H8 : Hid (SRow wf wd.heap.size (.slice (some ⟨g7, 0, none⟩) (0 + 1) c7) (List.take 0 [] ++ x :: List.drop 0 [])) := by unfold Hid SRow; simpa using H7.out
                  have HB8 := Lib.hid (HBD.out.trans (HB7.out.mono HBD.out.size))
                  as_aux_lemma =>
                  go_wp2_with fail
                  go_roundg (ss.length - (k + 1))
                  case measure => omega
                  case rel => exact ⟨k + 1, [x], by go_num, by omega, rfl, HF.out, ownsRow_base H8.out hz0, HB8.out⟩
                | some ad =>
                  obtain ⟨g, rfl⟩ := HROS.out ad rfl
                  have hnl : ((L.drop a).map Value.string).length = (L.length - a) * 1 := by rw [List.length_map, List.length_drop, Nat.mul_one]
                  by_cases hca : rcap = a
                  · subst hca
                    have hLa : L.length = rcap := by omega
                    have H8 : Hid (SRow wf wd.heap.size (.slice (some ⟨g7, 0, none⟩) (rcap + 1) c7) (L.take rcap ++ x :: L.drop rcap)) := by
                      have hdr : L.drop rcap = [] := List.drop_of_length_le (by omega)
                      rw [hdr]
                      unfold Hid SRow
                      have e1 : (L.take rcap ++ [x]).length = rcap + 1 := by rw [List.length_append, htl]; rfl
                      rw [e1, List.map_append]
                      exact H7.out
                    have HB8 := Lib.hid (HBD.out.trans (HB7.out.mono HBD.out.size))
                    as_aux_lemma =>
                    go_wp2_with fail
                    go_roundg (ss.length - (k + 1))
                    case measure => omega
                    case rel => exact ⟨k + 1, L.take rcap ++ x :: L.drop rcap, by go_num, by omega, rfl, HF.out, ownsRow_base H8.out hz0, HB8.out⟩
                  · have hca2 : a < rcap := by omega
                    have HCE : Hid (∀ (j : Nat) (u : Value), ((L.drop a).map Value.string)[j]? = some u → wf.cell? ((⟨g, 0 + a, none⟩ : Addr).add j) = some u) := fun j u hj =>
                      strs_cells HAE.out a (L.length - a) (by omega) j u (by rw [List.take_of_length_le (by rw [List.length_drop]; omega)]; exact hj)
                    rw [Nat.zero_add] at HCE
                    as_aux_lemma =>
                    go_wp2_with (at_builtin; refine wpList_append2 rfl _ _ 36 rfl wd.heap.size 9 i9 (.string ByteArray.empty) 1 16 Tryz.underlying36 HI.out rfl (by decide) _ _ _ rfl H7.out ⟨g, a, none⟩ (L.length - a) _ ((L.drop a).map Value.string) rfl hnl HCE.out (strs_one _) (by unfold maxLen; omega) (by omega) (by omega) ?_)
                    intro v' w3 hown hgrow hwh
                    obtain ⟨ao', cap', rfl⟩ := ownsRow_form hown
                    have HBG := Lib.hid (HBD.out.trans ((HB7.out.grown hgrow (by omega) (fun j hj => (H7.out.lt j hj).1)).mono HBD.out.size))
                    have H8 : Hid (SRow w3 wd.heap.size (.slice ao' (a + 1 + (L.length - a)) cap') (L.take a ++ x :: L.drop a)) := by
                      unfold Hid SRow
                      have e1 : (L.take a ++ x :: L.drop a).length = a + 1 + (L.length - a) := by rw [List.length_append, htl, List.length_cons, List.length_drop]; omega
                      have e2 : (L.take a ++ x :: L.drop a).map Value.string = List.take a (L.map Value.string) ++ Value.string x :: List.drop a (L.map Value.string) := by rw [List.map_append, List.map_cons, List.map_take, List.map_drop]
                      rw [e1, e2]
                      exact hown
                    clear hown hgrow hwh
                    go_wp2_with fail
                    go_roundg (ss.length - (k + 1))
                    case measure => omega
                    case rel => exact ⟨k + 1, L.take a ++ x :: L.drop a, by go_num, by omega, rfl, HF.out, ownsRow_base H8.out hz0, HBG.out⟩
    · have he : k = ss.length := by omega
      subst he
      have hii : ¬ (ss.length : Int) < (ss.length : Int) := by omega
      go_wp2_with fail
      go_ret
      exact ⟨_, L, rfl, HR.out.at, by rw [sortF, List.length_map]; exact HL.out, HB.out⟩
end Go.Proofs.YtngbjnjkcniabaaGreatDoor
