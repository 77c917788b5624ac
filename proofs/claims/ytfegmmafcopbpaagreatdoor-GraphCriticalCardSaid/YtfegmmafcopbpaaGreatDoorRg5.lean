/- The walk over the reference's above; append of a whole list of strings. -/
import Derived.Test.YtfegmmafcopbpaaGreatDoorRg4
import Derived.Deep.Upon
namespace Go.Proofs.YtfegmmafcopbpaaGreatDoor
open Go.RowKit Go.Deep

/-- append of a list of strings to one that is owned -/
theorem wpList_append_strs {P : Program} {ops : Array Oper} {rest : List Oper} {o : Oper} {a : Act} {w : World} {Q : Exit → Act → World → Prop} (hgd : o.guard = none) (s x : Operand) (t : TypeId)
    (ho : o.op = .call { callee := .builtin .append, args := #[s, x], argTypes := #[t, t] })
    (base : Nat) (i : TypeInfo) (ht : P.underlying t = some (.slice 9)) (hi : P.info? 9 = some i ∧ i.zero = some (.string ByteArray.empty) ∧ i.size = 1 ∧ i.bytes = 16)
    (v : Value) (n : Nat) (L : List ByteArray) (hs : a.eval s = v) (hown : w.ownsRow base 9 1 v n (L.map Value.string)) (hnL : n = L.length)
    (sv : Value) (ss : List ByteArray) (hx : a.eval x = sv) (hst : StrsAt w sv ss)
    (h63 : L.length + ss.length ≤ 1000000000) (hbase : base ≤ w.heap.size)
    (h : ∀ v' w', w'.ownsRow base 9 1 v' (n + ss.length) ((L ++ ss).map Value.string) → w.grownBy w' v.ownBlock → (v'.ownBlock = v.ownBlock ∨ v'.ownBlock = some w.heap.size) → wpList P ops Q rest (a.put o.dst v') w') : wpList P ops Q (o :: rest) a w := by
  subst hnL
  rcases hst with ⟨ao, cap, rfl, rfl⟩ | ⟨b, off, cap, rfl, hb, hc, hcell⟩
  · refine wpList_plain hgd fun K hK => ?_
    have h1 : w.ownsRow base 9 1 v (L.length + ([] : List ByteArray).length) ((L ++ []).map Value.string) := by simpa using hown
    have hK2 := hK _ _ (h v w h1 ⟨rfl, rfl, rfl, Nat.le_refl _, fun _ _ _ => rfl⟩ (.inl rfl))
    obtain ⟨vao, vcap, hv⟩ := ownsRow_form hown
    have hle : L.length ≤ vcap := by
      rcases hown.2 with ⟨h0, h0'⟩ | ⟨g, cap', cur, hv', _, _, hnc, _⟩
      · omega
      · rw [hv] at hv'; injection hv' with _ _ e3; omega
    have hsrc : Src P i.size t (.slice ao 0 cap) 0 [] w := by
      cases ao with
      | none => exact Src.ofNil w ht cap
      | some ad => exact Src.ofSlice w ht ad 0 cap [] (by simp) (fun j u hj => by simp at hj) (fun u hu => by cases hu)
    have hr := run_append_nothing (P := P) w t t o.type 9 i ht hi.1 vao L.length vcap hle (.slice ao 0 cap) hsrc
    unfold Oper.wp execOp
    rw [hv] at hs hK2
    simp only [ho, resolve, invoke, builtin, Sem.run_bind, Sem.run_pure, Result.andThen_ok, List.map_toArray, List.map_cons, List.map_nil, hs, hx, hr]
    exact hK2
  · refine wpList_append2 hgd s x t ho base 9 i (.string ByteArray.empty) 1 16 ht hi rfl (by decide) v L.length _ hs hown ⟨b, off, none⟩ ss.length cap (ss.map Value.string) hx (by simp) (fun j u hj => ?_) (by rw [List.all_map]; exact List.all_eq_true.2 fun _ _ => rfl) (by unfold maxLen; omega) (by omega) hbase fun v' w' h1 h2 h3 => h v' w' (by rw [List.map_append]; exact h1) h2 h3
    rw [List.getElem?_map] at hj
    cases hj2 : ss[j]? with
    | none => rw [hj2] at hj; cases hj
    | some y =>
      rw [hj2] at hj
      simp only [Option.map_some, Option.some.injEq] at hj
      subst hj
      have hjl := (List.getElem?_eq_some_iff.1 hj2).1
      have hadd : (⟨b, off, none⟩ : Addr).add j = ⟨b, off + j, none⟩ := by unfold Addr.add; split <;> simp_all
      rw [hadd, hcell j hjl, List.getD, hj2]
      rfl

theorem find_pos {G : Gr} {b : Bs} (h : b ∈ idsG G) : findF (idsG G) b = (posG G b : Nat) := by unfold findF; rw [if_pos h]; rfl
theorem addN_snoc (l ms : List Bs) (x : Bs) : addN l (ms ++ [x]) = if (addN l ms).contains x then addN l ms else addN l ms ++ [x] := by
  unfold addN
  rw [List.foldl_append]
  rfl
/-- what the reference's above returns -/
def aboveT (G : Gr) (b : Bs) : List Bs := if b ∈ idsG G then aboveR G b else []
def RAbRel (w1 : World) (G : Gr) (b : Bs) (f : Nat) (t5 t7 _t8 _t9 : Value) (wr : World) : Prop :=
  ∃ (i : Nat) (ss : List ByteArray), t7 = .int .i64 (i : Nat) ∧ i ≤ ss.length ∧ wr.ownsRow w1.heap.size 9 1 t5 ss.length (ss.map Value.string) ∧ (∀ x ∈ dts ss, x ∈ idsG G) ∧ (dts ss).Nodup ∧
    cloTo (nextB G) (G.length - i) i (dts ss) = aboveR G b ∧ f = G.length - i ∧ Below w1.heap.size w1 wr
def RAbIn (w1 : World) (l ms : List Bs) (f : Nat) (t5 t9 : Value) (wr : World) : Prop :=
  ∃ (j : Nat) (ss : List ByteArray), t9 = .int .i64 (j : Nat) ∧ j ≤ ms.length ∧ f = ms.length - j ∧ wr.ownsRow w1.heap.size 9 1 t5 ss.length (ss.map Value.string) ∧ dts ss = addN l (ms.take j) ∧ Below w1.heap.size w1 wr
theorem addN_in {U l ms : List Bs} (hl : ∀ x ∈ l, x ∈ U) (hm : ∀ x ∈ ms, x ∈ U) (hn : l.Nodup) : (∀ x ∈ addN l ms, x ∈ U) ∧ (addN l ms).Nodup ∧ l.length ≤ (addN l ms).length := by
  obtain ⟨r, h1, h2, h3⟩ := addN_app ms l
  refine ⟨fun x hx => ?_, h3 hn, by rw [h1]; simp⟩
  rcases (h2 x).1 hx with h | h
  · exact hl x h
  · exact hm x h
theorem take_in {α : Type} {P : α → Prop} {l : List α} (h : ∀ x ∈ l, P x) (k : Nat) : ∀ x ∈ l.take k, P x := fun x hx => h x (List.mem_of_mem_take hx)
theorem dts_len (ss : List ByteArray) : (dts ss).length = ss.length := by unfold dts; rw [List.length_map]

set_option maxRecDepth 100000 in
set_option maxHeartbeats 3200000 in
theorem rabove_any (nv : Value) (ns : List Nd) (hS : Sound (grO ns)) (b : ByteArray) (w : World) (h : NdAt w nv ns) :
    Calls Tryz.prog 49 #[nv, .string b] w fun e w' => ∃ v ss, e = .returned v ∧ StrsAt w' v ss ∧ dts ss = aboveT (grO ns) b.data.toList ∧ Below w.heap.size w w' := by
  have hl : ns.length ≤ 1024 := by have := hS.len; rwa [grO_len] at this
  have FA := fun W (hW : Below w.heap.size w W) s => Lib.hid (find_any nv ns s (by omega) W (h.below hW))
  obtain ⟨ao, cap, rfl⟩ := h.sl.form
  obtain ⟨i9, hi9⟩ := Tryz.info9'
  have HI := Lib.hid hi9
  have H := Lib.hid h
  have HSO := Lib.hid hS
  have HL := Lib.hid (grO_len ns)
  have HNN := Lib.hid (sound_needs hS)
  have F0 := FA w (Below.refl _ _) b
  clear h hi9 hS
  go_enter Tryz.func49, Tryz.ntmps49
  by_cases hb : b.data.toList ∈ idsG (grO ns)
  · rw [find_pos hb] at F0
    have hk : posG (grO ns) b.data.toList < ns.length := by have := posG_lt hb; rwa [grO_len] at this
    have HT : Hid (aboveT (grO ns) b.data.toList = aboveR (grO ns) b.data.toList) := by unfold Hid aboveT; rw [if_pos hb]
    obtain ⟨nb, noff, rfl, hnb, _, hc, hsx⟩ := H.out.at2 hk
    have HX : Hid (nextB (grO ns) b.data.toList = dts (ns.getD (posG (grO ns) b.data.toList) default).needs) := grO_need ns hk
    have hxl := HNN.out (ns.getD (posG (grO ns) b.data.toList) default) (by rw [List.getD, List.getElem?_eq_getElem hk]; exact List.getElem_mem hk)
    obtain ⟨xao, xcap, hxe⟩ := hsx.form
    rw [hxe] at hc hsx
    have HST := Lib.hid hsx
    clear hxe hsx hb
    generalize (ns.getD (posG (grO ns) b.data.toList) default).needs = nl0 at *
    generalize posG (grO ns) b.data.toList = k at *
    have hki : ((k : Nat) : Int) < (ns.length : Int) := by omega
    have hk0 : ¬ ((k : Nat) : Int) < 0 := by omega
    have hk0' : (0 : Int) ≤ ((k : Nat) : Int) := by omega
    go_wp2_with fail
    refine F0.out.mono ?_
    rintro e w1 ⟨rfl, rfl⟩
    go_wp2_with (at_builtin; refine wpList_append_strs rfl _ _ 35 rfl w1.heap.size i9 Tryz.underlying35 HI.out (.slice none 0 0) 0 [] rfl (World.ownsRow_nil _ _ _ _) rfl (.slice xao nl0.length xcap) nl0 rfl HST.out (by simp; omega) (Nat.le_refl _) ?_)
    intro v5 w2 hown hgrow _
    have HB2 : Hid (Below w1.heap.size w1 w2) := (Below.refl _ _).grown hgrow (Nat.le_refl _) (fun k hk => by cases hk)
    have HOWN2 := Lib.hid hown
    clear hown hgrow F0 hc
    go_wp2_with fail
    go_loopg [5, 7, 8, 9] ns.length (RAbRel w1 (grO ns) b.data.toList)
    case atStart =>
      refine ⟨0, nl0, rfl, Nat.zero_le _, HOWN2.out, fun y hy => ?_, ?_, ?_, by rw [HL.out]; rfl, HB2.out⟩
      · rw [← HX.out] at hy; exact HSO.out.need hy
      · rw [← HX.out]; exact needA_nodup HSO.out _
      · rw [← HX.out]; rfl
    case round =>
      obtain ⟨i, ss, rfl, hi, hown, hin, hnd, hcl, hff, hbr⟩ := hrel
      rw [HL.out] at hff
      subst hff
      have hsl : ss.length ≤ ns.length := by
        have := nodup_le (idsG (grO ns)) _ hnd hin
        rw [ids_len, HL.out, dts_len] at this
        exact this
      have HOWN := Lib.hid hown
      have HIN := Lib.hid hin
      have HND := Lib.hid hnd
      have HCL := Lib.hid hcl
      have HBR := Lib.hid hbr
      obtain ⟨a5, c5, rfl⟩ := ownsRow_form hown
      clear hown hin hnd hcl hbr HB2 HOWN2
      by_cases hlt : i < ss.length
      · have hii : ((i : Nat) : Int) < (ss.length : Int) := by omega
        have hxi := dts_at ss hlt
        have hxm := HIN.out _ (List.mem_of_getElem? hxi)
        have hq : posG (grO ns) (ss.getD i ByteArray.empty).data.toList < ns.length := by have := posG_lt hxm; rwa [grO_len] at this
        have HCS : Hid (cloTo (nextB (grO ns)) ((grO ns).length - (i + 1)) (i + 1) (addN (dts ss) (nextB (grO ns) (ss.getD i ByteArray.empty).data.toList)) = aboveR (grO ns) b.data.toList) := by
          unfold Hid
          rw [← cloTo_step (by rw [dts_len, HL.out]; exact hsl) hxi]
          exact HCL.out
        have F1 := FA wr HBR.out (ss.getD i ByteArray.empty)
        rw [find_pos hxm] at F1
        obtain ⟨sb, soff, rfl, hsb, hsc⟩ := (StrsAt.of_row HOWN.out).at_ hlt
        obtain ⟨nb2, noff2, hne, hnb2, _, hc2, hsx2⟩ := (H.out.below HBR.out).at2 hq
        injection hne with hne
        injection hne with e1 e2
        subst e1 e2
        have HX2 : Hid (nextB (grO ns) (ss.getD i ByteArray.empty).data.toList = dts (ns.getD (posG (grO ns) (ss.getD i ByteArray.empty).data.toList) default).needs) := grO_need ns hq
        have hxl2 := HNN.out (ns.getD (posG (grO ns) (ss.getD i ByteArray.empty).data.toList) default) (by rw [List.getD, List.getElem?_eq_getElem hq]; exact List.getElem_mem hq)
        have HST2 : Hid (∀ W, Below w1.heap.size w1 W → StrsAt W (ns.getD (posG (grO ns) (ss.getD i ByteArray.empty).data.toList) default).nv (ns.getD (posG (grO ns) (ss.getD i ByteArray.empty).data.toList) default).needs) := fun W hW => (H.out.below hW).st _ (by rw [List.getD, List.getElem?_eq_getElem hq]; exact List.getElem_mem hq)
        obtain ⟨xao2, xcap2, hxe2⟩ := hsx2.form
        rw [hxe2] at hc2 HST2
        rw [HX2.out] at HCS
        have HMI : Hid (∀ y ∈ dts (ns.getD (posG (grO ns) (ss.getD i ByteArray.empty).data.toList) default).needs, y ∈ idsG (grO ns)) := fun y hy => by rw [← HX2.out] at hy; exact HSO.out.need hy
        clear hxe2 hsx2 hxm hxi HX2
        generalize (ns.getD (posG (grO ns) (ss.getD i ByteArray.empty).data.toList) default).needs = nl at *
        generalize posG (grO ns) (ss.getD i ByteArray.empty).data.toList = q at *
        generalize ss.getD i ByteArray.empty = x at *
        have hqi : ((q : Nat) : Int) < (ns.length : Int) := by omega
        have hq0 : (0 : Int) ≤ ((q : Nat) : Int) := by omega
        have HNLL := Lib.hid (dts_len nl)
        go_wp2_with fail
        refine F1.out.mono ?_
        rintro e w3 ⟨rfl, rfl⟩
        clear F1 hsc
        go_wp2_with fail
        clear hc2
        go_loopg [5, 9] nl.length (RAbIn w1 (dts ss) (dts nl))
        case atStart => exact ⟨0, ss, rfl, Nat.zero_le _, by rw [HNLL.out]; rfl, HOWN.out, by rw [List.take_zero]; rfl, HBR.out⟩
        case round =>
          obtain ⟨j, ts, rfl, hj, hff, hown, hdt, hbr⟩ := hrel
          rw [HNLL.out] at hj hff
          subst hff
          have hadd := addN_in HIN.out (take_in HMI.out j) HND.out
          rw [← hdt] at hadd
          have htl : ts.length ≤ ns.length := by
            have := nodup_le (idsG (grO ns)) _ hadd.2.1 hadd.1
            rw [ids_len, HL.out, dts_len] at this
            exact this
          have htg : ss.length ≤ ts.length := by have := hadd.2.2; rwa [dts_len, dts_len] at this
          have HOW := Lib.hid hown
          have HDT := Lib.hid hdt
          have HBW := Lib.hid hbr
          have HAD := Lib.hid hadd
          obtain ⟨a5', c5', rfl⟩ := ownsRow_form hown
          clear hown hdt hbr hadd
          by_cases hjl : j < nl.length
          · have hji : ((j : Nat) : Int) < (nl.length : Int) := by omega
            obtain ⟨mb, moff, rfl, hmb, hmc⟩ := (HST2.out _ HBW.out).at_ hjl
            have HA := Lib.hid (has_any _ ts (nl.getD j ByteArray.empty) (by omega) _ (StrsAt.of_row HOW.out))
            have HTK : Hid ((dts nl).take (j + 1) = (dts nl).take j ++ [(nl.getD j ByteArray.empty).data.toList]) := by unfold Hid; rw [List.take_add_one, dts_at nl hjl]; rfl
            generalize nl.getD j ByteArray.empty = y at *
            by_cases hm : y.data.toList ∈ dts ts
            · have HN : Hid (dts ts = addN (dts ss) ((dts nl).take (j + 1))) := by
                unfold Hid
                rw [HTK.out, addN_snoc, ← HDT.out, if_pos (List.contains_iff_mem.2 hm)]
              rw [decide_eq_true hm] at HA
              clear hm
              as_aux_lemma =>
              go_wp2_with fail
              refine HA.out.mono ?_
              rintro e w5 ⟨rfl, rfl⟩
              go_wp2_with fail
              go_roundg (nl.length - (j + 1))
              case measure => omega
              case rel => exact ⟨j + 1, ts, by go_num, by rw [HNLL.out]; omega, by rw [HNLL.out], HOW.out, HN.out, HBW.out⟩
            · have HN : Hid (dts (ts ++ [y]) = addN (dts ss) ((dts nl).take (j + 1))) := by
                unfold Hid
                rw [HTK.out, addN_snoc, ← HDT.out, if_neg (by rw [List.contains_iff_mem]; exact hm)]
                simp [dts]
              rw [decide_eq_false hm] at HA
              have hws := HBW.out.size
              clear hm
              as_aux_lemma =>
              go_wp2_with fail
              refine HA.out.mono ?_
              rintro e w5 ⟨rfl, rfl⟩
              go_wp2_with (at_builtin; refine wpList_append2 rfl _ _ 35 rfl w1.heap.size 9 i9 (.string ByteArray.empty) 1 16 Tryz.underlying35 HI.out rfl (by decide) _ _ _ rfl (World.ownsRow.alloc HOW.out _) ⟨w5.heap.size, 0, none⟩ 1 1 [.string y] rfl rfl (cells_newAt rfl _ 9 (0, 0)) rfl (by unfold maxLen; omega) (by omega) (by simp; omega) ?_)
              intro v6 w6 hown hgrow _
              have hsz4 : (w5.alloc (.cells #[.string y] 9 (0, 0))).heap.size = w5.heap.size + 1 := by simp
              have HB6 : Hid (Below w1.heap.size w1 w6) := (HBW.out.alloc hws _).grown hgrow (by rw [hsz4]; omega) fun k hk => (World.ownsRow.lt HOW.out k hk).1
              have HO6 : Hid (w6.ownsRow w1.heap.size 9 1 v6 (ts ++ [y]).length ((ts ++ [y]).map Value.string)) := by unfold Hid; rw [List.map_append, List.length_append]; exact hown
              clear hown hgrow hsz4 hmc
              go_wp2_with fail
              go_roundg (nl.length - (j + 1))
              case measure => omega
              case rel => exact ⟨j + 1, ts ++ [y], by go_num, by rw [HNLL.out]; omega, by rw [HNLL.out], HO6.out, HN.out, HB6.out⟩
          · have he : j = nl.length := by omega
            subst he
            have HN : Hid (dts ts = addN (dts ss) (dts nl)) := by
              unfold Hid
              rw [HDT.out, ← HNLL.out, List.take_length]
            have HREL : Hid (cloTo (nextB (grO ns)) ((grO ns).length - (i + 1)) (i + 1) (dts ts) = aboveR (grO ns) b.data.toList) := by unfold Hid; rw [HN.out]; exact HCS.out
            as_aux_lemma =>
            go_wp2_with fail
            go_roundg (ns.length - (i + 1))
            case measure => omega
            case rel => exact ⟨i + 1, ts, by go_num, by omega, HOW.out, HAD.out.1, HAD.out.2.1, HREL.out, by rw [HL.out], HBW.out⟩
      · have he : i = ss.length := by omega
        subst he
        have HFIN : Hid (dts ss = aboveR (grO ns) b.data.toList) := by
          unfold Hid
          rw [← HCL.out, cloTo_end (by rw [dts_len]; exact Nat.le_refl _)]
        have HSA := Lib.hid (StrsAt.of_row HOWN.out)
        as_aux_lemma =>
        go_wp2_with fail
        go_ret
        exact ⟨_, ss, rfl, HSA.out, by rw [HT.out]; exact HFIN.out, HBR.out⟩
  · rw [find_miss hb] at F0
    have HT : Hid (aboveT (grO ns) b.data.toList = []) := by unfold Hid aboveT; rw [if_neg hb]
    clear hb
    as_aux_lemma =>
    go_wp2_with fail
    refine F0.out.mono ?_
    rintro e w1 ⟨rfl, rfl⟩
    go_wp2_with fail
    go_ret
    exact ⟨_, [], rfl, .inl ⟨_, _, rfl, rfl⟩, by rw [HT.out]; rfl, Below.refl _ _⟩
theorem aboveT_in {G : Gr} (hs : Sound G) (b : Bs) : ∀ x ∈ aboveT G b, x ∈ idsG G := by
  intro x hx
  unfold aboveT at hx
  by_cases h : b ∈ idsG G
  · rw [if_pos h] at hx; exact ((mem_aboveR hs).1 hx).1
  · rw [if_neg h] at hx; cases hx
theorem addN_nodup {α : Type} [BEq α] [LawfulBEq α] (l ms : List α) (h : l.Nodup) : (addN l ms).Nodup := by
  obtain ⟨r, _, _, h3⟩ := addN_app ms l
  exact h3 h
theorem cloTo_nodup {α : Type} [BEq α] [LawfulBEq α] {next : α → List α} : ∀ (f i : Nat) (l : List α), l.Nodup → (cloTo next f i l).Nodup
  | 0, i, l, h => by rw [cloTo]; exact h
  | f + 1, i, l, h => by
    rw [cloTo]
    split
    · exact h
    · exact cloTo_nodup f _ _ (addN_nodup _ _ h)
theorem aboveT_nodup {G : Gr} (hs : Sound G) (b : Bs) : (aboveT G b).Nodup := by
  unfold aboveT
  by_cases h : b ∈ idsG G
  · rw [if_pos h]; exact cloTo_nodup _ _ _ (needA_nodup hs _)
  · rw [if_neg h]; exact List.nodup_nil
theorem ids_size {ns : List Nd} (hS : Sound (grO ns)) {s : ByteArray} (h : s.data.toList ∈ idsG (grO ns)) : s.size ≤ 9223372036854775807 := by
  obtain ⟨y, hy, e⟩ := List.mem_map.1 h
  obtain ⟨x, hx, rfl⟩ := List.mem_map.1 hy
  have h1 := grO_sizes hS x hx
  simp only at e
  rw [Lib.size_eq, ← e, ← Lib.size_eq]
  exact h1
end Go.Proofs.YtfegmmafcopbpaaGreatDoor
