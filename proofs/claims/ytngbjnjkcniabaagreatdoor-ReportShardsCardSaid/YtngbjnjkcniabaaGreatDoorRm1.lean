/- The walk over the reference's put. -/
import Derived.Test.YtngbjnjkcniabaaGreatDoorRm0
import Derived.Test.YtngbjnjkcniabaaGreatDoorRr4
import Derived.Test.YtngbjnjkcniabaaGreatDoorNw3b
import Derived.StillTailTactics
import Derived.BigQuiet
import Derived.Deep.Upon
namespace Go.Proofs.YtngbjnjkcniabaaGreatDoor
open Go.RowKit Go.Deep

theorem flatMap_inv {α : Type} {f : α → List Value} {sz : Nat} (hf : ∀ x, (f x).length = sz) : ∀ (L : List α) (j : Nat) (u : Value), (L.flatMap f)[j]? = some u → ∃ (k r : Nat) (hk : k < L.length), j = k * sz + r ∧ (f L[k])[r]? = some u
  | [], j, u, h => by simp at h
  | x :: L, j, u, h => by
    rw [List.flatMap_cons] at h
    by_cases hj : j < sz
    · rw [List.getElem?_append_left (by rw [hf]; exact hj)] at h
      exact ⟨0, j, by simp, by omega, h⟩
    · rw [List.getElem?_append_right (by rw [hf]; omega), hf] at h
      obtain ⟨k, r, hk, e, h2⟩ := flatMap_inv hf L _ u h
      exact ⟨k + 1, r, by simpa using hk, by rw [Nat.succ_mul]; omega, h2⟩
theorem qu_one (l : List Qu) : ((l.flatMap Qu.cells).all fun v => v.oneCell') = true := by
  rw [List.all_eq_true]
  intro y hy
  obtain ⟨q, _, hq⟩ := List.mem_flatMap.1 hy
  simp only [Qu.cells, List.mem_cons, List.not_mem_nil, or_false] at hq
  rcases hq with rfl | rfl | rfl <;> rfl
theorem qu_len (l : List Qu) : (l.flatMap Qu.cells).length = l.length * 3 := by
  induction l with
  | nil => rfl
  | cons a l ih => rw [List.flatMap_cons, List.length_append, ih, List.length_cons, Qu.cells_len]; omega
theorem qu_cellsAt {w : World} {b off n cap : Nat} {L : List Qu} (h : QuAt w (.slice (some ⟨b, off, none⟩) n cap) L) : ∀ (j : Nat) (u : Value), (L.flatMap Qu.cells)[j]? = some u → w.cell? ((⟨b, off, none⟩ : Addr).add j) = some u := by
  intro j u hj
  obtain ⟨k, r, hk, rfl, hu⟩ := flatMap_inv Qu.cells_len L j u hj
  obtain ⟨b', off', e, _, hc⟩ := SlAt.at_ h hk
  injection e with e
  injection e with e1 e2
  subst e1 e2
  rw [Addr.add_lit, ← Nat.add_assoc]
  exact hc r u hu

/-- append of a whole list of results -/
theorem wpList_append_qu {P : Program} {ops : Array Oper} {rest : List Oper} {o : Oper} {a : Act} {w : World} {Q : Exit → Act → World → Prop} (hgd : o.guard = none) (s x : Operand) (t : TypeId)
    (ho : o.op = .call { callee := .builtin .append, args := #[s, x], argTypes := #[t, t] })
    (base : Nat) (e : TypeId) (i : TypeInfo) (z : Value) (ht : P.underlying t = some (.slice e)) (hi : P.info? e = some i ∧ i.zero = some z ∧ i.size = 3 ∧ i.bytes = 32) (hzs : z.cells.size = 3)
    (v : Value) (n : Nat) (L : List Qu) (hs : a.eval s = v) (hown : w.ownsRow base e 3 v n (L.flatMap Qu.cells)) (hnL : n = L.length)
    (sv : Value) (ss : List Qu) (hx : a.eval x = sv) (hst : QuAt w sv ss)
    (h63 : L.length + ss.length ≤ 1000000000) (hbase : base ≤ w.heap.size)
    (h : ∀ v' w', w'.ownsRow base e 3 v' (n + ss.length) ((L ++ ss).flatMap Qu.cells) → w.grownBy w' v.ownBlock → (v'.ownBlock = v.ownBlock ∨ v'.ownBlock = some w.heap.size) → wpList P ops Q rest (a.put o.dst v') w') : wpList P ops Q (o :: rest) a w := by
  subst hnL
  by_cases h0 : ss = []
  · subst h0
    obtain ⟨ao, cap, rfl⟩ := SlAt.form hst
    refine wpList_plain hgd fun K hK => ?_
    have h1 : w.ownsRow base e 3 v (L.length + ([] : List Qu).length) ((L ++ []).flatMap Qu.cells) := by simpa using hown
    have hK2 := hK _ _ (h v w h1 ⟨rfl, rfl, rfl, Nat.le_refl _, fun _ _ _ => rfl⟩ (.inl rfl))
    obtain ⟨vao, vcap, hv⟩ := ownsRow_form hown
    have hle : L.length ≤ vcap := by
      rcases hown.2 with ⟨h0, h0'⟩ | ⟨g, cap', cur, hv', _, _, hnc, _⟩
      · omega
      · rw [hv] at hv'; injection hv' with _ _ e3; omega
    have hsrc : Src P i.size t (.slice ao 0 cap) 0 [] w := by
      cases ao with
      | none => exact Src.ofNil w ht cap
      | some ad => exact Src.ofSlice w ht ad 0 cap [] (by simp) (fun j u hj => by simp at hj) (fun u hu => by cases hu)
    have hr := run_append_nothing (P := P) w t t o.type e i ht hi.1 vao L.length vcap hle (.slice ao 0 cap) hsrc
    unfold Oper.wp execOp
    rw [hv] at hs hK2
    have hx2 : a.eval x = .slice ao 0 cap := hx
    simp only [ho, resolve, invoke, builtin, Sem.run_bind, Sem.run_pure, Result.andThen_ok, List.map_toArray, List.map_cons, List.map_nil, hs, hx2, hr]
    exact hK2
  · obtain ⟨ao, cap, rfl⟩ := SlAt.form hst
    obtain ⟨b, off, rfl, _, _⟩ := SlAt.at_ hst (k := 0) (List.length_pos_iff.2 h0)
    refine wpList_append2 hgd s x t ho base e i z 3 32 ht hi hzs (by decide) v L.length _ hs hown ⟨b, off, none⟩ ss.length cap (ss.flatMap Qu.cells) hx (qu_len ss) (qu_cellsAt hst) (qu_one ss) (by unfold maxLen; omega) (by omega) hbase fun v' w' h1 h2 h3 => h v' w' (by rw [List.flatMap_append]; exact h1) h2 h3

theorem SlAt.drop {w : World} {b off n cap : Nat} {xs : List Qu} (h : QuAt w (.slice (some ⟨b, off, none⟩) n cap) xs) {k : Nat} (hk : k ≤ xs.length) (hb : b < w.heap.size) (c2 : Nat) : QuAt w (.slice (some ⟨b, off + k * 3, none⟩) (xs.length - k) c2) (xs.drop k) := by
  refine .inr ⟨b, off + k * 3, c2, by rw [List.length_drop], hb, fun j hj m u hu => ?_⟩
  rw [List.length_drop] at hj
  rw [List.getElem_drop] at hu
  obtain ⟨b', off', e, _, hc⟩ := SlAt.at_ h (show k + j < xs.length by omega)
  injection e with e
  injection e with e1 e2
  subst e1 e2
  have := hc m u hu
  rw [Nat.add_mul, ← Nat.add_assoc] at this
  exact this

def PutRel (w1 : World) (x : Bs) (L : List Bs) (f : Nat) (t5 : Value) (wr : World) : Prop :=
  ∃ j : Nat, t5 = .int .i64 (j : Nat) ∧ j ≤ L.length ∧ j = f ∧ atT x L L.length = atT x L j ∧ Below w1.heap.size w1 wr
def PutPost (L : List Qu) (q : Qu) (w : World) (e : Ending) (w' : World) : Prop := ∃ v, e = .returned v ∧ TrRow w' w.heap.size v (putQ L q) ∧ Below w.heap.size w w'

set_option maxRecDepth 100000 in
set_option maxHeartbeats 6400000 in
theorem put_any (base : Nat) (v : Value) (L : List Qu) (q : Qu) (hl : L.length ≤ 100000) (hsz : ∀ x ∈ L, x.name.size ≤ 9223372036854775807) (hqs : q.name.size ≤ 9223372036854775807) (w : World) (h : TrRow w base v L) : Calls Tryz.prog 45 #[v, q.val] w (PutPost L q w) := by
  obtain ⟨ao, cap, rfl⟩ := ownsRow_form h
  have HR := Lib.hid h
  have HA := Lib.hid (TrRow.at h)
  have hrc0 : L.length ≤ cap ∧ (ao = none → L = []) ∧ (∀ ad, ao = some ad → ∃ g, ad = ⟨g, 0, none⟩ ∧ g < w.heap.size) := by
    rcases h.2 with ⟨e, h0⟩ | ⟨g, c, cur, e, _, hg, hn, _⟩
    · injection e with e1 e2 e3
      subst e1
      exact ⟨by omega, fun _ => List.length_eq_zero_iff.1 h0, fun ad h => absurd h (by simp)⟩
    · injection e with e1 e2 e3
      subst e1 e3
      exact ⟨hn, fun h => absurd h (by simp), fun ad h => ⟨g, (Option.some.inj h).symm, (Array.getElem?_eq_some_iff.1 hg).1⟩⟩
  obtain ⟨hcl, hron, hros⟩ := hrc0
  have HRON := Lib.hid hron
  have HROS := Lib.hid hros
  have HSZ := Lib.hid (fun j (hj : j < L.length) => hsz L[j] (List.getElem_mem hj))
  have HLM : Hid ((L.map nmQ).length = L.length) := List.length_map ..
  have HPQ : Hid (putQ L q = L.take (atT (nmQ q) (L.map nmQ) (L.map nmQ).length) ++ q :: L.drop (atT (nmQ q) (L.map nmQ) (L.map nmQ).length)) := by unfold Hid putQ atQ; rw [List.length_map]
  obtain ⟨i41, hi41, hz41, hn41, hy41⟩ := Tryz.info45'
  have HI := Lib.hid hi41
  clear h hsz hron hros hi41
  go_enter Tryz.func45, Tryz.ntmps45
  obtain ⟨W1, hW1⟩ : ∃ W, w.alloc (.cells #[.string q.name, .int .i64 q.since, .int .i64 q.til] 41 (0, 0)) = W := ⟨_, rfl⟩
  have hb1 : Below w.heap.size w W1 := by rw [← hW1]; exact (Below.refl _ _).alloc (Nat.le_refl _) _
  have hk1 : W1.heap[w.heap.size]? = some (.cells #[.string q.name, .int .i64 q.since, .int .i64 q.til] 41 (0, 0)) := by rw [← hW1]; exact hp_new rfl
  have hlt1 : w.heap.size < W1.heap.size := (Array.getElem?_eq_some_iff.1 hk1).1
  have HB1 := Lib.hid hb1
  have HA1 := Lib.hid (SlAt.below HA.out hb1)
  have HK1 : Hid (∀ W, Below W1.heap.size W1 W → W.cell? ⟨w.heap.size, 0, none⟩ = some (.string q.name) ∧ W.cell? ⟨w.heap.size, 1, none⟩ = some (.int .i64 q.since) ∧ W.cell? ⟨w.heap.size, 2, none⟩ = some (.int .i64 q.til)) := fun W hW => by
    have := (hW.block _ hlt1).trans hk1
    exact ⟨cell_of_blk this 0, cell_of_blk this 1, cell_of_blk this 2⟩
  clear hk1 hb1
  go_upto_region 1 with fail
  clear hW1
  go_upto_block 0 with fail
  go_cut [5] (fun s5 wx => s5 = .int .i64 (atT (nmQ q) (L.map nmQ) (L.map nmQ).length : Nat) ∧ Below W1.heap.size W1 wx)
  case first =>
    go_wp2_with fail
    go_loopg [5] L.length (PutRel W1 (nmQ q) (L.map nmQ))
    case atStart => exact ⟨L.length, rfl, by rw [HLM.out]; exact Nat.le_refl _, rfl, by rw [HLM.out], Below.refl _ _⟩
    case round =>
      obtain ⟨j, rfl, hj, hjf, hat, hbel⟩ := hrel
      subst hjf
      rw [HLM.out] at hj
      have HAT := Lib.hid hat
      have HB2 := Lib.hid hbel
      clear hat hbel
      obtain ⟨k0, k1, k2⟩ := HK1.out wr HB2.out
      by_cases hj0 : 0 < j
      · have hj1 : (1 : Int) ≤ (j : Int) := by omega
        have hji : (0 : Int) < (j : Int) := by omega
        have hjl : (j : Int) - 1 < (L.length : Int) := by omega
        have q1 : IntKind.i64.wrap ((j : Int) - 1) = (j : Int) - 1 := IntWalk.i64_in _ (by omega)
        have q2 : (0 : Int) ≤ (j : Int) - 1 := by omega
        have q3 : ((j : Int) - 1).toNat = j - 1 := by omega
        have hjL : j - 1 < L.length := by omega
        obtain ⟨rb, roff, rfl, hrb, c0, _, _⟩ := QuAt.at3 (SlAt.below HA1.out HB2.out) hjL
        have HAJ : Hid (atT (nmQ q) (L.map nmQ) j = if natC (nmQ q) (L[j - 1]).name.data.toList < 0 then atT (nmQ q) (L.map nmQ) (j - 1) else j) := by
          unfold Hid
          obtain ⟨i, rfl⟩ : ∃ i, j = i + 1 := ⟨j - 1, by omega⟩
          rw [atT, nm_getD (by omega)]
          rfl
        have CM := fun W => Lib.hid (rcompare_any q.name (L[j - 1]).name hqs (HSZ.out _ hjL) W)
        generalize (L[j - 1]).name = y at *
        go_upto_region 2 with fail
        go_still_tail 11, (by kernel_rfl)
        change wpList _ _ _ _ _ (World.drew _)
        go_wp2_with fail
        refine (CM _).out.mono ?_
        rintro e w5 ⟨rfl, hu⟩
        have HB5 := Lib.hid (HB2.out.trans ((Below.refl wr.heap.size wr).drew.trans (hu.b.mono (Nat.le_refl _)) |>.mono HB2.out.size))
        clear hu CM k0 k1 k2 c0
        generalize natC q.name.data.toList y.data.toList = c at *
        by_cases hq : c < 0
        · have HF : Hid (atT (nmQ q) (L.map nmQ) (L.map nmQ).length = atT (nmQ q) (L.map nmQ) (j - 1)) := by unfold Hid; rw [HAT.out, HAJ.out, if_pos hq]
          clear HAJ
          as_aux_lemma =>
          go_wp2_with fail
          go_roundg (j - 1)
          case measure => omega
          case rel => exact ⟨j - 1, by first | rfl | go_num, by rw [HLM.out]; omega, rfl, HF.out, HB5.out⟩
        · have HF : Hid (atT (nmQ q) (L.map nmQ) (L.map nmQ).length = j) := by unfold Hid; rw [HAT.out, HAJ.out, if_neg hq]
          have hq1 : decide (c < 0) = false := by simp; omega
          clear HAJ hq
          as_aux_lemma =>
          go_wp2_with fail
          go_meet
          case rel => exact ⟨by rw [HF.out], HB5.out⟩
      · have hj1 : j = 0 := by omega
        subst hj1
        have HF : Hid (atT (nmQ q) (L.map nmQ) (L.map nmQ).length = 0) := by unfold Hid; rw [HAT.out]; rfl
        as_aux_lemma =>
        go_upto_region 2 with fail
        go_quiet (fail)
        go_wp2_with fail
        go_meet
        case rel => exact ⟨by rw [HF.out], HB2.out.trans ⟨rfl, rfl, rfl, Nat.le_refl _, fun _ _ => rfl⟩⟩
  case rest =>
    obtain ⟨rfl, hbc⟩ := hcut
    have hle : atT (nmQ q) (L.map nmQ) (L.map nmQ).length ≤ L.length := Nat.le_trans (atT_le _ _ _) (by rw [HLM.out]; exact Nat.le_refl _)
    generalize atT (nmQ q) (L.map nmQ) (L.map nmQ).length = a at *
    have HBW := Lib.hid (HB1.out.trans (hbc.mono HB1.out.size))
    have HAD := Lib.hid (SlAt.below HA1.out hbc)
    obtain ⟨k0, k1, k2⟩ := HK1.out wc hbc
    have hwl : w.heap.size ≤ wc.heap.size := HBW.out.size
    have HKC : Hid (∀ W, Below wc.heap.size wc W → W.cell? ⟨w.heap.size, 0, none⟩ = some (.string q.name) ∧ W.cell? ⟨w.heap.size, 1, none⟩ = some (.int .i64 q.since) ∧ W.cell? ⟨w.heap.size, 2, none⟩ = some (.int .i64 q.til)) := fun W hW => HK1.out W (hbc.trans (hW.mono hbc.size))
    clear hbc HA HA1 HR HSZ HK1 HB1
    generalize wc = wd at *
    have hal : (a : Int) ≤ (cap : Int) := by omega
    have hal2 : (a : Int) ≤ (L.length : Int) := by omega
    have htl : (L.take a).length = a := by rw [List.length_take]; omega
    go_upto_region 4 with fail
    go_cut [6] (fun s6 wx => TrRow wx wd.heap.size s6 (L.take a) ∧ Below wd.heap.size wd wx)
    case first =>
      cases ao with
      | none =>
        have h0 := HRON.out rfl
        subst h0
        have ha0 : a = 0 := by simpa using hle
        subst ha0
        as_aux_lemma =>
        go_wp2_with fail
        go_meet
        case rel => exact ⟨World.ownsRow_made wd #[] 0 (Nat.le_refl _) (Nat.zero_le _) rfl, (Below.refl _ _).alloc (Nat.le_refl _) _⟩
      | some ad =>
        obtain ⟨g, rfl, hgl⟩ := HROS.out ad rfl
        have HTK : Hid (QuAt (wd.alloc (.cells #[] 41)) (.slice (some ⟨g, 0, none⟩) a cap) (L.take a)) := SlAt.take (SlAt.below HAD.out ((Below.refl _ _).alloc (Nat.le_refl _) _)) hle (by simp; omega)
        as_aux_lemma =>
        go_wp2_with (at_builtin; refine wpList_append_qu rfl _ _ 23 rfl wd.heap.size 41 i41 (.agg #[.string ByteArray.empty, .int .i64 0, .int .i64 0]) Tryz.underlying23 ⟨HI.out, hz41, hn41, hy41⟩ rfl _ 0 [] rfl (World.ownsRow_made wd #[] 0 (Nat.le_refl _) (Nat.zero_le _) rfl) rfl _ (L.take a) rfl HTK.out (by rw [htl]; simp; omega) (by simp) ?_)
        intro v' w3 hown hgrow hwh
        obtain ⟨ao', cap', rfl⟩ := ownsRow_form hown
        have HOWN := Lib.hid hown
        have HBG := Lib.hid (((Below.refl wd.heap.size wd).alloc (Nat.le_refl _) (.cells #[] 41)).grown hgrow (by simp) (by intro k hk; simp [Value.ownBlock] at hk; omega))
        clear hown hgrow hwh
        go_wp2_with fail
        go_meet
        case rel => exact ⟨by unfold TrRow; rw [htl]; exact HOWN.out, HBG.out⟩
    case rest =>
      obtain ⟨h6, hb6⟩ := hcut
      have HB6 := Lib.hid hb6
      obtain ⟨o6, c6, rfl⟩ := ownsRow_form h6
      have H6 : Hid (wc.ownsRow wd.heap.size 41 3 (.slice o6 a c6) a ((L.take a).flatMap Qu.cells)) := by
        have := h6
        unfold TrRow at this
        rw [htl] at this
        exact this
      rw [htl]
      obtain ⟨m0, m1, m2⟩ := HKC.out wc hb6
      have hz6 := hb6.size
      clear h6 hb6 k0 k1 k2
      generalize wc = we at *
      go_upto_region 5 with fail
      go_cut [6] (fun s6 wx => wx.ownsRow wd.heap.size 41 3 s6 (a + 1) ((L.take a).flatMap Qu.cells ++ q.cells) ∧ Below wd.heap.size wd wx)
      case first =>
        as_aux_lemma =>
        go_wp2_with (at_builtin; refine wpList_append2 rfl _ _ 23 rfl wd.heap.size 41 i41 (.agg #[.string ByteArray.empty, .int .i64 0, .int .i64 0]) 3 32 Tryz.underlying23 ⟨HI.out, hz41, hn41, hy41⟩ rfl (by decide) _ _ _ rfl (H6.out.alloc _) ⟨we.heap.size, 0, none⟩ 1 1 q.cells rfl rfl (cells_newAt rfl _ 41 (0, 0)) rfl (by unfold maxLen; omega) (by omega) (by simp; omega) ?_)
        intro v' w3 hown hgrow hwh
        obtain ⟨ao', cap', rfl⟩ := ownsRow_form hown
        have HOWN := Lib.hid hown
        have HBG := Lib.hid ((HB6.out.alloc HB6.out.size _).grown hgrow (by simp; omega) (fun j hj => (H6.out.lt j hj).1))
        clear hown hgrow hwh
        go_wp2_with fail
        go_meet
        case rel => exact ⟨HOWN.out, HBG.out⟩
      case rest =>
        obtain ⟨h7, hb7⟩ := hcut
        have H7 := Lib.hid h7
        have HB7 := Lib.hid hb7
        obtain ⟨o7, c7, rfl⟩ := ownsRow_form h7
        have HAE := Lib.hid (SlAt.below HAD.out hb7)
        have hz7 := hb7.size
        clear h7 hb7 H6 HB6 hz6
        generalize wc = wf at *
        have H8 : Hid (wf.ownsRow wd.heap.size 41 3 (.slice o7 (a + 1) c7) (a + 1) ((L.take a ++ [q]).flatMap Qu.cells)) := by
          unfold Hid
          rw [List.flatMap_append]
          simpa using H7.out
        have hlen8 : a + 1 = (L.take a ++ [q]).length := by rw [List.length_append, htl]; rfl
        have HEND : Hid (putQ L q = L.take a ++ [q] ++ L.drop a) := by unfold Hid; rw [HPQ.out]; simp
        obtain ⟨g7, rfl, hc7⟩ : ∃ g7, o7 = some ⟨g7, 0, none⟩ ∧ a + 1 ≤ c7 := by
          rcases H7.out.2 with ⟨_, h0⟩ | ⟨g7, c, cur, e, _, _, hn, _⟩
          · omega
          · injection e with e1 e2 e3
            subst e3
            exact ⟨g7, e1, hn⟩
        have HLE := Lib.hid hlen8
        clear hlen8
        go_upto_region 6 with fail
        cases ao with
        | none =>
          have h0 := HRON.out rfl
          subst h0
          have ha0 : a = 0 := by simpa using hle
          subst ha0
          clear htl HPQ HAD HAE HLM hl HRON H7
          as_aux_lemma =>
          go_wp2_with (at_builtin; refine wpList_append_qu rfl _ _ 23 rfl wd.heap.size 41 i41 (.agg #[.string ByteArray.empty, .int .i64 0, .int .i64 0]) Tryz.underlying23 ⟨HI.out, hz41, hn41, hy41⟩ rfl _ (0 + 1) (List.take 0 [] ++ [q]) rfl H8.out HLE.out (.slice none 0 cap) [] rfl (.inl ⟨_, _, rfl, rfl⟩) (by have h := HLE.out; show (List.take 0 [] ++ [q]).length + 0 ≤ 1000000000; omega) hz7 ?_)
          intro v' w3 hown hgrow hwh
          obtain ⟨ao', cap', rfl⟩ := ownsRow_form hown
          have HBG := Lib.hid (HBW.out.trans ((HB7.out.grown hgrow hz7 (fun j hj => (H8.out.lt j hj).1)).mono hwl))
          have HOWN : Hid (TrRow w3 w.heap.size (.slice ao' (0 + 1) cap') (putQ [] q)) := by
            unfold Hid TrRow
            rw [HEND.out]
            have := ownsRow_base hown hwl
            simpa using this
          clear hown hgrow hwh
          go_wp2_with fail
          go_ret
          exact ⟨_, rfl, HOWN.out, HBG.out⟩
        | some ad =>
          obtain ⟨g, rfl, hgl⟩ := HROS.out ad rfl
          have HBX := Lib.hid (HBW.out.trans (HB7.out.mono hwl))
          clear H7
          have H63 : Hid ((L.take a ++ [q]).length + (L.drop a).length ≤ 1000000000) := by unfold Hid; rw [← HLE.out, List.length_drop]; omega
          by_cases hca : cap = a
          · have HDR : Hid (QuAt wf (.slice (some ⟨g, 0, none⟩) (L.length - a) (cap - a)) (L.drop a)) := by
              unfold Hid
              rw [List.drop_of_length_le (by omega), show L.length - a = 0 by omega]
              exact .inl ⟨_, _, rfl, rfl⟩
            have hcz : ¬ 0 < cap - a := by omega
            have HTL := Lib.hid htl
            clear hca htl
            as_aux_lemma =>
            go_wp2_with (at_builtin; refine wpList_append_qu rfl _ _ 23 rfl wd.heap.size 41 i41 (.agg #[.string ByteArray.empty, .int .i64 0, .int .i64 0]) Tryz.underlying23 ⟨HI.out, hz41, hn41, hy41⟩ rfl _ (a + 1) (L.take a ++ [q]) rfl H8.out HLE.out (.slice (some ⟨g, 0, none⟩) (L.length - a) (cap - a)) (L.drop a) rfl HDR.out H63.out hz7 ?_)
            intro v' w3 hown hgrow hwh
            obtain ⟨ao', cap', rfl⟩ := ownsRow_form hown
            have HBG := Lib.hid (HBW.out.trans ((HB7.out.grown hgrow hz7 (fun j hj => (H8.out.lt j hj).1)).mono hwl))
            have HOWN : Hid (TrRow w3 w.heap.size (.slice ao' (a + 1 + (L.length - a)) cap') (putQ L q)) := by
              have e1 : (L.take a ++ [q] ++ L.drop a).length = a + 1 + (L.length - a) := by rw [List.length_append, ← HLE.out, List.length_drop]
              have e2 : (L.take a ++ [q] ++ L.drop a).flatMap Qu.cells = (L.take a).flatMap Qu.cells ++ (q.cells ++ (L.drop a).flatMap Qu.cells) := by rw [List.append_assoc, List.flatMap_append, List.singleton_append, List.flatMap_cons]
              unfold Hid TrRow
              rw [HEND.out, e1, e2]
              exact ownsRow_base hown hwl
            clear hown hgrow hwh
            go_wp2_with fail
            go_ret
            exact ⟨_, rfl, HOWN.out, HBG.out⟩
          · have hca2 : a < cap := by omega
            have hai : (a : Int) < (cap : Int) := by omega
            have HDR : Hid (QuAt wf (.slice (some ⟨g, a * 3, none⟩) (L.length - a) (cap - a)) (L.drop a)) := by
              have := SlAt.drop HAE.out hle (show g < wf.heap.size by omega) (cap - a)
              rw [Nat.zero_add] at this
              exact this
            have HTL := Lib.hid htl
            clear htl hca
            as_aux_lemma =>
            go_wp2_with (at_builtin; refine wpList_append_qu rfl _ _ 23 rfl wd.heap.size 41 i41 (.agg #[.string ByteArray.empty, .int .i64 0, .int .i64 0]) Tryz.underlying23 ⟨HI.out, hz41, hn41, hy41⟩ rfl _ (a + 1) (L.take a ++ [q]) rfl H8.out HLE.out (.slice (some ⟨g, a * 3, none⟩) (L.length - a) (cap - a)) (L.drop a) rfl HDR.out H63.out hz7 ?_)
            intro v' w3 hown hgrow hwh
            obtain ⟨ao', cap', rfl⟩ := ownsRow_form hown
            have HBG := Lib.hid (HBW.out.trans ((HB7.out.grown hgrow hz7 (fun j hj => (H8.out.lt j hj).1)).mono hwl))
            have HOWN : Hid (TrRow w3 w.heap.size (.slice ao' (a + 1 + (L.length - a)) cap') (putQ L q)) := by
              have e1 : (L.take a ++ [q] ++ L.drop a).length = a + 1 + (L.length - a) := by rw [List.length_append, ← HLE.out, List.length_drop]
              have e2 : (L.take a ++ [q] ++ L.drop a).flatMap Qu.cells = (L.take a).flatMap Qu.cells ++ (q.cells ++ (L.drop a).flatMap Qu.cells) := by rw [List.append_assoc, List.flatMap_append, List.singleton_append, List.flatMap_cons]
              unfold Hid TrRow
              rw [HEND.out, e1, e2]
              exact ownsRow_base hown hwl
            clear hown hgrow hwh
            go_wp2_with fail
            go_ret
            exact ⟨_, rfl, HOWN.out, HBG.out⟩
end Go.Proofs.YtngbjnjkcniabaaGreatDoor
