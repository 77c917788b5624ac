/- The walk over the reference's distance. -/
import Derived.Test.YtfegmmafcopbpaaGreatDoorRg5
namespace Go.Proofs.YtfegmmafcopbpaaGreatDoor
open Go.RowKit

def distR (G : Gr) (i k : Nat) : Int := if distF (ab G) G.length i k = 0 then -1 else ((distF (ab G) G.length i k : Nat) : Int)
theorem visD_val {st k : Nat} {s : DS} (x : Nat) (h : s.1 k = 0 ∨ s.1 k = st) : (visD st s x).1 k = 0 ∨ (visD st s x).1 k = st := by
  unfold visD
  by_cases h0 : s.1 x = 0
  · rw [if_pos h0]
    show (if k = x then st else s.1 k) = 0 ∨ (if k = x then st else s.1 k) = st
    by_cases hk : k = x
    · rw [if_pos hk]; exact .inr rfl
    · rw [if_neg hk]; exact h
  · rw [if_neg h0]; exact h
theorem rowD_val {st k : Nat} : ∀ (ks : List Nat) (s : DS), (s.1 k = 0 ∨ s.1 k = st) → (rowD st s ks).1 k = 0 ∨ (rowD st s ks).1 k = st
  | [], _, h => h
  | x :: ks, s, h => rowD_val ks (visD st s x) (visD_val x h)
theorem layD_val {next : Nat → List Nat} {st k : Nat} : ∀ (todo : List Nat) (s : DS), (s.1 k = 0 ∨ s.1 k = st) → (layD next st s todo).1 k = 0 ∨ (layD next st s todo).1 k = st
  | [], _, h => h
  | i :: todo, s, h => layD_val todo (rowD st s (next i)) (rowD_val _ s h)
theorem rowD_snoc (st : Nat) (s : DS) (ks : List Nat) (x : Nat) : rowD st s (ks ++ [x]) = visD st (rowD st s ks) x := by simp [rowD]
theorem layD_snoc (next : Nat → List Nat) (st : Nat) (s : DS) (todo : List Nat) (i : Nat) : layD next st s (todo ++ [i]) = rowD st (layD next st s todo) (next i) := by simp [layD]
theorem name_in {G : Gr} (hs : Sound G) {todo : List Nat} (hl : ∀ k ∈ todo, k < G.length) {b : Bs} (hb : b ∈ idsG G) : b ∈ todo.map (idA G) ↔ posG G b ∈ todo := by
  rw [List.mem_map]
  constructor
  · rintro ⟨k, hk, rfl⟩
    rw [posG_id hs.nodup (hl k hk)]
    exact hk
  · intro h
    exact ⟨_, h, idA_pos hb⟩
/-- the names that have been seen -/
def SeenB (G : Gr) (o : Nat → Nat) (l : List Bs) : Prop := (∀ x, x ∈ l ↔ x ∈ idsG G ∧ o (posG G x) ≠ 0) ∧ l.Nodup
theorem SeenB.len {G : Gr} {o : Nat → Nat} {l : List Bs} (h : SeenB G o l) : l.length ≤ G.length := by
  have := nodup_le (idsG G) l h.2 (fun x hx => ((h.1 x).1 hx).1)
  rwa [ids_len] at this
theorem SeenB.add {G : Gr} {s : DS} {l : List Bs} {st : Nat} (hst : st ≠ 0) (h : SeenB G s.1 l) {y : Bs} (hy : y ∈ idsG G) (hn : y ∉ l) : SeenB G (visD st s (posG G y)).1 (l ++ [y]) ∧ (visD st s (posG G y)).2 = s.2 ++ [posG G y] := by
  have h0 : s.1 (posG G y) = 0 := Classical.byContradiction fun hne => hn ((h.1 y).2 ⟨hy, hne⟩)
  unfold visD
  rw [if_pos h0]
  refine ⟨⟨fun x => ?_, ?_⟩, rfl⟩
  · show x ∈ l ++ [y] ↔ x ∈ idsG G ∧ (if posG G x = posG G y then st else s.1 (posG G x)) ≠ 0
    rw [List.mem_append, List.mem_singleton, h.1 x]
    constructor
    · rintro (⟨h1, h2⟩ | rfl)
      · refine ⟨h1, ?_⟩
        by_cases e : posG G x = posG G y
        · rw [if_pos e]; exact hst
        · rw [if_neg e]; exact h2
      · exact ⟨hy, by rw [if_pos rfl]; exact hst⟩
    · rintro ⟨h1, h2⟩
      by_cases e : posG G x = posG G y
      · exact .inr (posG_inj h1 hy e)
      · rw [if_neg e] at h2; exact .inl ⟨h1, h2⟩
  · rw [List.nodup_append]
    exact ⟨h.2, by simp, fun a ha b hb => by simp at hb; subst hb; rintro rfl; exact hn ha⟩
theorem SeenB.old {G : Gr} {s : DS} {l : List Bs} {st : Nat} (h : SeenB G s.1 l) {y : Bs} (hn : y ∈ l) : visD st s (posG G y) = s := by
  unfold visD
  rw [if_neg ((h.1 y).1 hn).2]
theorem seen_start {G : Gr} (hs : Sound G) {a : Nat} {l : List Bs} (hl : l = needA G a) : SeenB G (fun j => if j ∈ ab G a then 1 else 0) l := by
  subst hl
  refine ⟨fun x => ?_, needA_nodup hs a⟩
  show _ ↔ _ ∧ (if posG G x ∈ ab G a then 1 else 0) ≠ 0
  constructor
  · intro hx
    exact ⟨hs.need hx, by rw [if_pos (ab_of_need hx)]; decide⟩
  · rintro ⟨h1, h2⟩
    by_cases h3 : posG G x ∈ ab G a
    · have := need_of_ab hs h3
      rwa [idA_pos h1] at this
    · rw [if_neg h3] at h2; exact absurd rfl h2
theorem ab_names {G : Gr} (hs : Sound G) (a : Nat) : (ab G a).map (idA G) = needA G a := by
  unfold ab
  rw [List.map_map]
  conv => rhs; rw [← List.map_id (needA G a)]
  exact List.map_congr_left fun x hx => idA_pos (hs.need hx)

def RDisRel (w1 : World) (G : Gr) (a k : Nat) (f : Nat) (t7 t8 t9 _t10 _t11 _t12 _t13 _t14 : Value) (wr : World) : Prop :=
  ∃ (step : Nat) (o : Nat → Nat) (todo : List Nat) (ls sn : List ByteArray), t9 = .int .i64 (step : Nat) ∧ f = G.length + 2 - step ∧ StrsAt wr t7 ls ∧ dts ls = todo.map (idA G) ∧ StrsAt wr t8 sn ∧ SeenB G o (dts sn) ∧
    DisSt (ab G) G.length a step o todo ∧ (o k = 0 ∨ k ∈ todo) ∧ Below w1.heap.size w1 wr
def RDisRow (wo wr : World) (G : Gr) (s : DS) (t10 t11 : Value) : Prop :=
  ∃ nx sn : List ByteArray, wr.ownsRow wo.heap.size 9 1 t10 nx.length (nx.map Value.string) ∧ wr.ownsRow wo.heap.size 9 1 t11 sn.length (sn.map Value.string) ∧ (∀ k, t10.ownBlock = some k → t11.ownBlock ≠ some k) ∧
    dts nx = s.2.map (idA G) ∧ SeenB G s.1 (dts sn) ∧ nx.length ≤ sn.length ∧ Below wo.heap.size wo wr
def RDisMid (wo : World) (G : Gr) (st : Nat) (s0 : DS) (todo : List Nat) (f : Nat) (t10 t11 t12 _t13 _t14 : Value) (wr : World) : Prop :=
  ∃ i : Nat, t12 = .int .i64 (i : Nat) ∧ i ≤ todo.length ∧ f = todo.length - i ∧ RDisRow wo wr G (layD (ab G) st s0 (todo.take i)) t10 t11
def RDisIn (wo : World) (G : Gr) (st : Nat) (s1 : DS) (ks : List Nat) (f : Nat) (t10 t11 t14 : Value) (wr : World) : Prop :=
  ∃ j : Nat, t14 = .int .i64 (j : Nat) ∧ j ≤ ks.length ∧ f = ks.length - j ∧ RDisRow wo wr G (rowD st s1 (ks.take j)) t10 t11

set_option maxRecDepth 100000 in
set_option maxHeartbeats 6400000 in
theorem rdistance_any (nv : Value) (ns : List Nd) (hS : Sound (grO ns)) (a b : ByteArray) (ha : a.data.toList ∈ idsG (grO ns)) (hb : b.data.toList ∈ idsG (grO ns)) (w : World) (h : NdAt w nv ns) :
    Calls Tryz.prog 45 #[nv, .string a, .string b] w fun e w' => e = .returned (.int .i64 (distR (grO ns) (posG (grO ns) a.data.toList) (posG (grO ns) b.data.toList))) ∧ Below w.heap.size w w' := by
  have hl : ns.length ≤ 1024 := by have := hS.len; rwa [grO_len] at this
  have FA := fun W (hW : Below w.heap.size w W) s => Lib.hid (find_any nv ns s (by omega) W (h.below hW))
  have F0 := FA w (Below.refl _ _) a
  rw [find_pos ha] at F0
  obtain ⟨ao, cap, rfl⟩ := h.sl.form
  obtain ⟨i9, hi9⟩ := Tryz.info9'
  have HI := Lib.hid hi9
  have H := Lib.hid h
  have HSO := Lib.hid hS
  have HL := Lib.hid (grO_len ns)
  have HNN := Lib.hid (sound_needs hS)
  have HBI := Lib.hid hb
  have hk : posG (grO ns) a.data.toList < ns.length := by have := posG_lt ha; rwa [grO_len] at this
  clear h hi9 hS ha hb
  go_enter Tryz.func45, Tryz.ntmps45
  obtain ⟨nb, noff, rfl, hnb, _, hc, hsx⟩ := H.out.at2 hk
  have HX : Hid (needA (grO ns) (posG (grO ns) a.data.toList) = dts (ns.getD (posG (grO ns) a.data.toList) default).needs) := grO_need ns hk
  have hxl := HNN.out (ns.getD (posG (grO ns) a.data.toList) default) (by rw [List.getD, List.getElem?_eq_getElem hk]; exact List.getElem_mem hk)
  obtain ⟨xao, xcap, hxe⟩ := hsx.form
  rw [hxe] at hc hsx
  have HST := Lib.hid hsx
  clear hxe hsx
  generalize (ns.getD (posG (grO ns) a.data.toList) default).needs = nl0 at *
  generalize posG (grO ns) a.data.toList = p at *
  obtain ⟨q, hq⟩ : ∃ q, posG (grO ns) b.data.toList = q := ⟨_, rfl⟩
  have HQ := Lib.hid hq
  rw [hq]
  clear hq
  have hki : ((p : Nat) : Int) < (ns.length : Int) := by omega
  have hk0 : (0 : Int) ≤ ((p : Nat) : Int) := by omega
  go_wp2_with fail
  refine F0.out.mono ?_
  rintro e w1 ⟨rfl, rfl⟩
  clear F0
  go_wp2_with fail
  clear hc
  go_loopg [7, 8, 9, 10, 11, 12, 13, 14] (ns.length + 1) (RDisRel w1 (grO ns) p q)
  case atStart =>
    refine ⟨1, _, _, nl0, nl0, rfl, by rw [HL.out]; rfl, HST.out, ?_, HST.out, seen_start HSO.out HX.out.symm, dis_start HSO.out p, ?_, Below.refl _ _⟩
    · rw [ab_names HSO.out]; exact HX.out.symm
    · by_cases hm : q ∈ ab (grO ns) p
      · exact .inr hm
      · exact .inl (if_neg hm)
  case round =>
    obtain ⟨step, o, todo, ls, sn, rfl, hff, hls, hld, has, hsn, hds, hok, hbr⟩ := hrel
    rw [HL.out] at hff
    subst hff
    have hfu := hds.fuel
    have hpos := hds.pos
    have hzl : step ≤ ns.length + 1 := by rw [HL.out] at hfu; split at hfu <;> omega
    have hll : ls.length = todo.length := by have := congrArg List.length hld; simpa [dts] using this
    have htl : todo.length ≤ ns.length := by
      have := nodup_le (List.range (grO ns).length) todo hds.new.1 (fun k hk => List.mem_range.2 (hds.lt k hk))
      rw [HL.out] at this
      simpa using this
    have hal := hsn.len
    rw [HL.out, dts_len] at hal
    have HFU := Lib.hid hfu
    have HLS := Lib.hid hls
    have HLD := Lib.hid hld
    have HAS := Lib.hid has
    have HSN := Lib.hid hsn
    have HDS := Lib.hid hds
    have HOK := Lib.hid hok
    have HBR := Lib.hid hbr
    have HLL := Lib.hid hll
    obtain ⟨lao, lcap, rfl⟩ := hls.form
    obtain ⟨sao, scap, rfl⟩ := has.form
    have hbs := hbr.size
    clear hls hld has hsn hds hok hbr hfu hll
    by_cases hlt : 0 < ls.length
    · have hii : (0 : Int) < (ls.length : Int) := by omega
      have hne : todo ≠ [] := fun e => by rw [HLL.out, e] at hlt; exact absurd hlt (by decide)
      have HNE := Lib.hid hne
      have HA := Lib.hid (has_any _ ls b (by rw [HLL.out]; omega) wr HLS.out)
      have hiff : decide (b.data.toList ∈ dts ls) = decide (q ∈ todo) := by
        rw [HLD.out, decide_eq_decide, name_in HSO.out HDS.out.lt HBI.out, HQ.out]
      rw [hiff] at HA
      clear hiff hne
      by_cases hm : q ∈ todo
      · have HFIN : Hid (distR (grO ns) p q = ((step : Nat) : Int)) := by
          unfold Hid distR
          rw [dis_found HDS.out hm, if_neg (by omega)]
        rw [decide_eq_true hm] at HA
        clear hm
        as_aux_lemma =>
        go_wp2_with fail
        refine HA.out.mono ?_
        rintro e w2 ⟨rfl, rfl⟩
        go_wp2_with fail
        go_ret
        exact ⟨by rw [HFIN.out]; rfl, HBR.out⟩
      · have HO0 : Hid (o q = 0) := by
          rcases HOK.out with h1 | h1
          · exact h1
          · exact absurd h1 hm
        have HD2 := Lib.hid (dis_step HSO.out HDS.out HNE.out)
        have HOV := Lib.hid (layD_val (next := ab (grO ns)) (st := step + 1) todo (o, []) (.inl HO0.out))
        rw [decide_eq_false hm] at HA
        clear hm HOK
        go_wp2_with fail
        refine HA.out.mono ?_
        rintro e w2 ⟨rfl, rfl⟩
        clear HA
        go_wp2_with (at_builtin; refine wpList_append_strs rfl _ _ 35 rfl w2.heap.size i9 Tryz.underlying35 HI.out (.slice none 0 0) 0 [] rfl (World.ownsRow_nil _ _ _ _) rfl (.slice sao sn.length scap) sn rfl HAS.out (by simp; omega) (Nat.le_refl _) ?_)
        intro v5 w3 hown hgrow _
        have HB3 : Hid (Below w2.heap.size w2 w3) := (Below.refl _ _).grown hgrow (Nat.le_refl _) (fun k hk => by cases hk)
        have HOWN3 : Hid (w3.ownsRow w2.heap.size 9 1 v5 sn.length (sn.map Value.string)) := Lib.hid (by simpa using hown)
        clear hown hgrow
        go_wp2_with fail
        go_loopg [10, 11, 12, 13, 14] todo.length (RDisMid w2 (grO ns) (step + 1) (o, []) todo)
        case atStart =>
          exact ⟨0, rfl, Nat.zero_le _, rfl, [], sn, World.ownsRow_nil _ _ _ _, HOWN3.out, fun k hk => (by cases hk), rfl, HSN.out, Nat.zero_le _, HB3.out⟩
        case round =>
          obtain ⟨i, rfl, hi, rfl, nx, ts, hr1, hr2, hap, hnx, hse, hlx, hbw⟩ := hrel
          have hsl := hse.len
          rw [HL.out, dts_len] at hsl
          have HR1 := Lib.hid hr1
          have HR2 := Lib.hid hr2
          have HAP := Lib.hid hap
          have HNX := Lib.hid hnx
          have HSE := Lib.hid hse
          have HBW := Lib.hid hbw
          obtain ⟨a10, c10, rfl⟩ := ownsRow_form hr1
          obtain ⟨a11, c11, rfl⟩ := ownsRow_form hr2
          have HBT := Lib.hid (HBR.out.trans (hbw.mono hbs))
          clear hr1 hr2 hap hnx hse hbw HB3 HOWN3
          by_cases hil : i < todo.length
          · have hil2 : i < ls.length := by rw [HLL.out]; exact hil
            have hji : ((i : Nat) : Int) < (ls.length : Int) := by omega
            obtain ⟨mb, moff, rfl, hmb, hmc⟩ := (HLS.out.below HBW.out).at_ hil2
            have hti : (todo.map (idA (grO ns)))[i]? = some (idA (grO ns) (todo.getD i 0)) := by
              rw [List.getElem?_map, List.getD, List.getElem?_eq_getElem hil]; rfl
            have hxi := dts_at ls hil2
            rw [HLD.out, hti] at hxi
            injection hxi with hxi
            have htlt : todo.getD i 0 < (grO ns).length := HDS.out.lt _ (by rw [List.getD, List.getElem?_eq_getElem hil]; exact List.getElem_mem hil)
            have HTK : Hid (todo.take (i + 1) = todo.take i ++ [todo.getD i 0]) := by unfold Hid; rw [List.take_add_one, List.getD, List.getElem?_eq_getElem hil]; rfl
            have hxm : (ls.getD i ByteArray.empty).data.toList ∈ idsG (grO ns) := by rw [← hxi]; exact idA_mem htlt
            have hxp : posG (grO ns) (ls.getD i ByteArray.empty).data.toList = todo.getD i 0 := by rw [← hxi]; exact posG_id HSO.out.nodup htlt
            have F1 := FA wr HBT.out (ls.getD i ByteArray.empty)
            rw [find_pos hxm, hxp] at F1
            rw [HL.out] at htlt
            clear hxi hti hxm hxp
            generalize todo.getD i 0 = r at *
            generalize ls.getD i ByteArray.empty = x at *
            obtain ⟨nb2, noff2, hne2, hnb2, _, hc2, hsx2⟩ := (H.out.below HBT.out).at2 htlt
            injection hne2 with hne2
            injection hne2 with e1 e2
            subst e1 e2
            have HX2 : Hid (needA (grO ns) r = dts (ns.getD r default).needs) := grO_need ns htlt
            have hxl2 := HNN.out (ns.getD r default) (by rw [List.getD, List.getElem?_eq_getElem htlt]; exact List.getElem_mem htlt)
            have HST2 : Hid (∀ W, Below w1.heap.size w1 W → StrsAt W (ns.getD r default).nv (ns.getD r default).needs) := fun W hW => (H.out.below hW).st _ (by rw [List.getD, List.getElem?_eq_getElem htlt]; exact List.getElem_mem htlt)
            obtain ⟨xao2, xcap2, hxe2⟩ := hsx2.form
            rw [hxe2] at hc2 HST2
            clear hxe2 hsx2
            generalize (ns.getD r default).needs = nl at *
            have HMI : Hid (∀ y ∈ dts nl, y ∈ idsG (grO ns)) := fun y hy => by rw [← HX2.out] at hy; exact HSO.out.need hy
            have HAB : Hid (ab (grO ns) r = (dts nl).map (posG (grO ns))) := by unfold Hid ab; rw [HX2.out]
            have HABL : Hid ((ab (grO ns) r).length = nl.length) := by unfold Hid; rw [HAB.out, List.length_map, dts_len]
            have hri : ((r : Nat) : Int) < (ns.length : Int) := by omega
            have hr0 : (0 : Int) ≤ ((r : Nat) : Int) := by omega
            generalize hs1 : layD (ab (grO ns)) (step + 1) (o, []) (todo.take i) = s1 at *
            have HS1 := Lib.hid hs1
            clear hs1
            go_wp2_with fail
            refine F1.out.mono ?_
            rintro e w4 ⟨rfl, rfl⟩
            clear F1 hmc
            go_wp2_with fail
            clear hc2
            go_loopg [10, 11, 14] nl.length (RDisIn w2 (grO ns) (step + 1) s1 (ab (grO ns) r))
            case atStart =>
              exact ⟨0, rfl, Nat.zero_le _, by rw [HABL.out]; rfl, nx, ts, HR1.out, HR2.out, HAP.out, HNX.out, HSE.out, hlx, HBW.out⟩
            case round =>
              obtain ⟨j, rfl, hj, hff, nx', ts', hr1, hr2, hap, hnx, hse, hlx', hbw⟩ := hrel
              rw [HABL.out] at hj hff
              subst hff
              have hsl' := hse.len
              rw [HL.out, dts_len] at hsl'
              have KR1 := Lib.hid hr1
              have KR2 := Lib.hid hr2
              have KAP := Lib.hid hap
              have KNX := Lib.hid hnx
              have KSE := Lib.hid hse
              have KBW := Lib.hid hbw
              obtain ⟨a10', c10', rfl⟩ := ownsRow_form hr1
              obtain ⟨a11', c11', rfl⟩ := ownsRow_form hr2
              have KBT := Lib.hid (HBR.out.trans (hbw.mono hbs))
              have hws := hbw.size
              clear hr1 hr2 hap hnx hse hbw
              by_cases hjl : j < nl.length
              · have hjj : ((j : Nat) : Int) < (nl.length : Int) := by omega
                obtain ⟨yb, yoff, rfl, hyb, hyc⟩ := (HST2.out _ KBT.out).at_ hjl
                have hyi := dts_at nl hjl
                have HYM : Hid ((nl.getD j ByteArray.empty).data.toList ∈ idsG (grO ns)) := HMI.out _ (List.mem_of_getElem? hyi)
                have HTK2 : Hid ((ab (grO ns) r).take (j + 1) = (ab (grO ns) r).take j ++ [posG (grO ns) (nl.getD j ByteArray.empty).data.toList]) := by
                  unfold Hid
                  rw [List.take_add_one, HAB.out, List.getElem?_map, hyi]
                  rfl
                have HA := Lib.hid (has_any _ ts' (nl.getD j ByteArray.empty) (by omega) _ (StrsAt.of_row KR2.out))
                have HYC : Hid (∀ W, Below w1.heap.size w1 W → W.cell? ⟨yb, yoff + j, none⟩ = some (.string (nl.getD j ByteArray.empty))) := fun W hW => by
                  obtain ⟨b', off', e', _, hc'⟩ := (HST2.out W hW).at_ hjl
                  injection e' with e'
                  injection e' with e1 e2
                  subst e1 e2
                  exact hc'
                clear hyi
                generalize nl.getD j ByteArray.empty = y at *
                by_cases hm : y.data.toList ∈ dts ts'
                · have HOLD : Hid (rowD (step + 1) s1 ((ab (grO ns) r).take (j + 1)) = rowD (step + 1) s1 ((ab (grO ns) r).take j)) := by
                    unfold Hid
                    rw [HTK2.out, rowD_snoc, KSE.out.old hm]
                  rw [decide_eq_true hm] at HA
                  clear hm HYC
                  as_aux_lemma =>
                  go_wp2_with fail
                  refine HA.out.mono ?_
                  rintro e w5 ⟨rfl, rfl⟩
                  go_wp2_with fail
                  go_roundg (nl.length - (j + 1))
                  case measure => omega
                  case rel => exact ⟨j + 1, by go_num, by rw [HABL.out]; omega, by rw [HABL.out], nx', ts', KR1.out, KR2.out, KAP.out, by rw [HOLD.out]; exact KNX.out, by rw [HOLD.out]; exact KSE.out, hlx', KBW.out⟩
                · obtain ⟨hadd, hpush⟩ := KSE.out.add (st := step + 1) (by omega) HYM.out hm
                  rw [← rowD_snoc, ← HTK2.out] at hadd hpush
                  have HADD := Lib.hid hadd
                  have HPUSH := Lib.hid hpush
                  rw [decide_eq_false hm] at HA
                  clear hm hadd hpush
                  go_wp2_with fail
                  refine HA.out.mono ?_
                  rintro e w5 ⟨rfl, rfl⟩
                  clear HA
                  go_wp2_with (at_builtin; refine wpList_append2 rfl _ _ 35 rfl w2.heap.size 9 i9 (.string ByteArray.empty) 1 16 Tryz.underlying35 HI.out rfl (by decide) _ _ _ rfl (World.ownsRow.alloc KR2.out _) ⟨w5.heap.size, 0, none⟩ 1 1 [.string y] rfl rfl (cells_newAt rfl _ 9 (0, 0)) rfl (by unfold maxLen; omega) (by omega) (by simp; omega) ?_)
                  intro v6 w6 hown hgrow hat
                  obtain ⟨a11n, c11n, rfl⟩ := ownsRow_form hown
                  have hsz4 : (w5.alloc (.cells #[.string y] 9 (0, 0))).heap.size = w5.heap.size + 1 := by simp
                  have hb10 : ∀ k, (Value.slice a10' nx'.length c10').ownBlock = some k → k < w5.heap.size := fun k hk => (World.ownsRow.lt KR1.out k hk).2
                  have KBW6 : Hid (Below w2.heap.size w2 w6) := (KBW.out.alloc hws _).grown hgrow (by rw [hsz4]; omega) fun k hk => (World.ownsRow.lt KR2.out k hk).1
                  have KR26 : Hid (w6.ownsRow w2.heap.size 9 1 (.slice a11n (ts'.length + 1) c11n) (ts' ++ [y]).length ((ts' ++ [y]).map Value.string)) := by unfold Hid; rw [List.map_append, List.length_append]; exact hown
                  have KR16 : Hid (w6.ownsRow w2.heap.size 9 1 (.slice a10' nx'.length c10') nx'.length (nx'.map Value.string)) := by
                    refine World.ownsRow.kept (World.ownsRow.alloc KR1.out _) hgrow ?_
                    cases ho : (Value.slice a10' nx'.length c10').ownBlock with
                    | none => exact .inl rfl
                    | some kk => exact .inr fun e => KAP.out kk ho e.symm
                  have KAP6 : Hid (∀ k, (Value.slice a10' nx'.length c10').ownBlock = some k → (Value.slice a11n (ts'.length + 1) c11n).ownBlock ≠ some k) := fun k hk e => by
                    rcases hat with h | h
                    · exact KAP.out k hk (h ▸ e)
                    · rw [h] at e
                      have h9 := hb10 k hk
                      injection e with e
                      omega
                  have hyc6 := HYC.out w6 (HBR.out.trans (KBW6.out.mono hbs))
                  have hws6 := KBW6.out.size
                  clear hown hgrow hat hsz4 hb10 KR1 KR2 KAP KBW hyc
                  go_wp2_with (at_builtin; refine wpList_append2 rfl _ _ 35 rfl w2.heap.size 9 i9 (.string ByteArray.empty) 1 16 Tryz.underlying35 HI.out rfl (by decide) _ _ _ rfl (World.ownsRow.alloc KR16.out _) ⟨w6.heap.size, 0, none⟩ 1 1 [.string y] rfl rfl (cells_newAt rfl _ 9 (0, 0)) rfl (by unfold maxLen; omega) (by omega) (by simp; omega) ?_)
                  intro v7 w7 hown hgrow hat
                  obtain ⟨a10n, c10n, rfl⟩ := ownsRow_form hown
                  have hsz4 : (w6.alloc (.cells #[.string y] 9 (0, 0))).heap.size = w6.heap.size + 1 := by simp
                  have hb11 : ∀ k, (Value.slice a11n (ts'.length + 1) c11n).ownBlock = some k → k < w6.heap.size := fun k hk => (World.ownsRow.lt KR26.out k hk).2
                  have KBW7 : Hid (Below w2.heap.size w2 w7) := (KBW6.out.alloc hws6 _).grown hgrow (by rw [hsz4]; omega) fun k hk => (World.ownsRow.lt KR16.out k hk).1
                  have KR17 : Hid (w7.ownsRow w2.heap.size 9 1 (.slice a10n (nx'.length + 1) c10n) (nx' ++ [y]).length ((nx' ++ [y]).map Value.string)) := by unfold Hid; rw [List.map_append, List.length_append]; exact hown
                  have KR27 : Hid (w7.ownsRow w2.heap.size 9 1 (.slice a11n (ts'.length + 1) c11n) (ts' ++ [y]).length ((ts' ++ [y]).map Value.string)) := by
                    refine World.ownsRow.kept (World.ownsRow.alloc KR26.out _) hgrow ?_
                    cases ho : (Value.slice a11n (ts'.length + 1) c11n).ownBlock with
                    | none => exact .inl rfl
                    | some kk => exact .inr fun e => KAP6.out kk e.symm ho
                  have KAP7 : Hid (∀ k, (Value.slice a10n (nx'.length + 1) c10n).ownBlock = some k → (Value.slice a11n (ts'.length + 1) c11n).ownBlock ≠ some k) := fun k hk e => by
                    rcases hat with h | h
                    · exact KAP6.out k (h ▸ hk) e
                    · rw [h] at hk
                      have h9 := hb11 k e
                      injection hk with hk
                      omega
                  have KNX7 : Hid (dts (nx' ++ [y]) = (rowD (step + 1) s1 ((ab (grO ns) r).take (j + 1))).2.map (idA (grO ns))) := by
                    unfold Hid
                    rw [HPUSH.out, List.map_append, ← KNX.out, List.map_cons, List.map_nil, idA_pos HYM.out]
                    simp [dts]
                  have KSE7 : Hid (SeenB (grO ns) (rowD (step + 1) s1 ((ab (grO ns) r).take (j + 1))).1 (dts (ts' ++ [y]))) := by
                    unfold Hid
                    have : dts (ts' ++ [y]) = dts ts' ++ [y.data.toList] := by simp [dts]
                    rw [this]
                    exact HADD.out
                  have hlx7 : (nx' ++ [y]).length ≤ (ts' ++ [y]).length := by simp; omega
                  clear hown hgrow hat hsz4 hb11 KR16 KR26 KAP6 hyc6 HADD HPUSH KNX KSE
                  as_aux_lemma =>
                  go_wp2_with fail
                  go_roundg (nl.length - (j + 1))
                  case measure => omega
                  case rel => exact ⟨j + 1, by go_num, by rw [HABL.out]; omega, by rw [HABL.out], nx' ++ [y], ts' ++ [y], by first | exact KR17.out | simpa using KR17.out, by first | exact KR27.out | simpa using KR27.out, KAP7.out, KNX7.out, KSE7.out, hlx7, KBW7.out⟩
              · have he : j = nl.length := by omega
                subst he
                have HEQ : Hid (layD (ab (grO ns)) (step + 1) (o, []) (todo.take (i + 1)) = rowD (step + 1) s1 ((ab (grO ns) r).take nl.length)) := by
                  unfold Hid
                  rw [HTK.out, layD_snoc, HS1.out, ← HABL.out, List.take_length]
                as_aux_lemma =>
                go_wp2_with fail
                go_roundg (todo.length - (i + 1))
                case measure => omega
                case rel => exact ⟨i + 1, by go_num, by omega, rfl, nx', ts', KR1.out, KR2.out, KAP.out, by rw [HEQ.out]; exact KNX.out, by rw [HEQ.out]; exact KSE.out, hlx', KBW.out⟩
          · have he : i = todo.length := by omega
            subst he
            have hnlt : ¬ ((todo.length : Nat) : Int) < (ls.length : Int) := by have := HLL.out; omega
            rw [List.take_length] at HNX HSE
            have HREL : Hid (RDisRel w1 (grO ns) p q (ns.length + 2 - (step + 1)) (.slice a10 nx.length c10) (.slice a11 ts.length c11) (.int .i64 ((step + 1 : Nat) : Int)) (.slice a10 nx.length c10) (.slice a11 ts.length c11) (.slice a10 nx.length c10) (.slice a10 nx.length c10) (.slice a10 nx.length c10) wr) := by
              refine ⟨step + 1, _, _, nx, ts, rfl, by rw [HL.out], StrsAt.of_row HR1.out, HNX.out, StrsAt.of_row HR2.out, HSE.out, HD2.out, ?_, HBT.out⟩
              rcases HOV.out with h1 | h1
              · exact .inl h1
              · exact .inr ((HD2.out.new.2 q).2 h1)
            have hst2 : step + 1 ≤ ns.length + 1 := by
              have h1 := HFU.out
              rw [HL.out, if_neg HNE.out] at h1
              omega
            as_aux_lemma =>
            go_wp2_with fail
            go_roundg (ns.length + 2 - (step + 1))
            case measure => omega
            case rel =>
              obtain ⟨st', o', td', l', a', h1, h2⟩ := HREL.out
              exact ⟨st', o', td', l', a', by first | exact h1 | (rw [← h1]; go_num), h2⟩
    · have h0 : ls.length = 0 := by omega
      have hii : ¬ (0 : Int) < (ls.length : Int) := by omega
      have ht0 : todo = [] := List.length_eq_zero_iff.1 (by rw [← HLL.out]; exact h0)
      have HFIN : Hid (distR (grO ns) p q = -1) := by
        unfold Hid distR
        have h1 : o q = 0 := by
          rcases HOK.out with h1 | h1
          · exact h1
          · rw [ht0] at h1; cases h1
        have h2 := HDS.out
        rw [ht0] at h2
        rw [dis_end h2, if_pos h1]
      clear h0 ht0
      as_aux_lemma =>
      go_wp2_with fail
      go_ret
      exact ⟨by rw [HFIN.out]; rfl, HBR.out⟩
end Go.Proofs.YtfegmmafcopbpaaGreatDoor
