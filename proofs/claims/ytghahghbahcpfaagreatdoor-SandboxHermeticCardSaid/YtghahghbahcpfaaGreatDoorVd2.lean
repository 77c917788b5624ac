/- Bytes in a row of the call's own, the row of a converted string among them: append of one byte. -/
import Derived.Test.YtghahghbahcpfaaGreatDoorVd1
import Derived.Test.YtghahghbahcpfaaGreatDoorVa2
import Derived.Lib.ConvBytes
import Derived.Test.YtghahghbahcpfaaGreatDoorVa1
namespace Go.Proofs.YtghahghbahcpfaaGreatDoor
open Go.RowKit Go.Lib

abbrev bV (c : UInt8) : Value := .int .u8 ((c.toNat : Nat) : Int)
/-- bytes in a row of the call's own, no cell of which is frozen -/
def BOwn (base : Nat) (w : World) (L : List UInt8) (v : Value) : Prop :=
  (v = .slice none 0 0 ∧ L = []) ∨ ∃ g cap cur lo hi, v = .slice (some ⟨g, 0, none⟩) L.length cap ∧ base ≤ g ∧ w.heap[g]? = some (.cells cur 5 (lo, hi)) ∧ (hi ≤ lo ∨ cap ≤ lo) ∧ L.length ≤ cap ∧ cap ≤ maxLen ∧ cur.size = cap ∧ cur.toList.take L.length = L.map bV
theorem bown_low {base : Nat} {w : World} {L : List UInt8} {v : Value} (h : BOwn base w L v) : ∀ k, v.ownBlock = some k → base ≤ k ∧ k < w.heap.size := by
  rcases h with ⟨rfl, rfl⟩ | ⟨g, cap, cur, lo, hi, rfl, hb, hg, _⟩
  · intro k e; cases e
  · intro k e
    have e : g = k := Option.some.inj e
    subst e
    exact ⟨hb, (Array.getElem?_eq_some_iff.1 hg).1⟩
theorem bown_keep {base : Nat} {w w1 : World} {L : List UInt8} {v : Value} (h : BOwn base w L v) (hk : ∀ k, v.ownBlock = some k → w1.heap[k]? = w.heap[k]?) : BOwn base w1 L v := by
  rcases h with h | ⟨g, cap, cur, lo, hi, rfl, hb, hg, h⟩
  · exact .inl h
  · exact .inr ⟨g, cap, cur, lo, hi, rfl, hb, (hk g rfl).trans hg, h⟩
theorem bown_of_owns {base : Nat} {w : World} {L : List UInt8} {v : Value} (h : w.ownsRow base 5 1 v L.length (L.map bV)) : BOwn base w L v := by
  rcases h.2 with ⟨e, hn⟩ | ⟨g, cap, cur, e, hb, hg, hn, hm, hs, ht⟩
  · exact .inl ⟨e, List.length_eq_zero_iff.1 hn⟩
  · exact .inr ⟨g, cap, cur, 0, 0, e, hb, hg, .inl (Nat.le_refl _), hn, hm, by omega, by rw [Nat.mul_one] at ht; exact ht⟩
theorem bown_row {base : Nat} {w : World} {L : List UInt8} {v : Value} (h : BOwn base w L v) : EByt.Row (fun _ => True) w L v := by
  rcases h with ⟨rfl, rfl⟩ | ⟨g, cap, cur, lo, hi, rfl, hb, hg, hf, hn, hm, hs, ht⟩
  · exact ElemK.Row.nil
  · refine .inr ⟨g, 0, cap, rfl, trivial, (Array.getElem?_eq_some_iff.1 hg).1, hn, fun k hk => ⟨[bV L[k]], fun j u hu => ?_, rfl⟩⟩
    have hj : j = 0 := by
      have := (List.getElem?_eq_some_iff.1 hu).1
      simpa using this
    subst hj
    injection hu with hu
    subst hu
    rw [show EByt.sz = 1 from rfl, Nat.mul_one, Nat.add_zero, Nat.zero_add, cell_of_blk hg, ← Array.getElem?_toList]
    have h2 : (cur.toList.take L.length)[k]? = some (bV L[k]) := by rw [ht, List.getElem?_map, List.getElem?_eq_getElem hk]; rfl
    rwa [List.getElem?_take_of_lt hk] at h2
/-- the row of a converted string -/
theorem bown_conv (w : World) (s : ByteArray) (hs : s.size ≤ maxLen) : BOwn w.heap.size (bytesWorld w 5 s) s.data.toList (.slice (some ⟨w.heap.size, 0, none⟩) s.size (grownCap w s.size 0 5)) := by
  have hge := grownCap_ge w s.size 0 5
  have hsz : (bytesCells w 5 s).size = grownCap w s.size 0 5 := by
    unfold bytesCells
    rw [Array.size_append, Array.size_map, Array.size_replicate]
    have : s.data.size = s.size := rfl
    omega
  have hl : s.data.toList.length = s.size := rfl
  refine .inr ⟨w.heap.size, grownCap w s.size 0 5, bytesCells w 5 s, _, _, by rw [hl], Nat.le_refl _, bytesWorld_at_new w 5 s, .inr (Nat.le_of_eq hsz.symm), by rw [hl]; exact hge, grownCap_le_maxLen w _ _ _ hs, hsz, ?_⟩
  unfold bytesCells
  rw [Array.toList_append, Array.toList_map, List.take_append_of_le_length (by rw [List.length_map]; exact Nat.le_refl _), List.take_of_length_le (by rw [List.length_map]; exact Nat.le_refl _)]
section
variable {P : Program}
theorem run_push_byte (w : World) (base : Nat) (t ty : TypeId) (i : TypeInfo) (ht : P.underlying t = some (.slice 5)) (hi : P.info? 5 = some i) (hz : i.zero = some (.int .u8 0)) (hs : i.size = 1) (hb : i.bytes = 1)
    (L : List UInt8) (v : Value) (hO : BOwn base w L v) (blk : Nat) (fr : Nat × Nat) (c : UInt8) (hx : w.heap[blk]? = some (.cells #[bV c] 5 fr)) (hlen : L.length + 1 ≤ 140737488355328) (hbase : base ≤ w.heap.size) :
    ∃ v' w', (Builtin.append_ #[t, t] ty #[v, .slice (some ⟨blk, 0, none⟩) 1 1]).run P w = .ok v' w' ∧ BOwn base w' (L ++ [c]) v' ∧ w.grownBy w' v.ownBlock := by
  have hmax : maxLen = 9223372036854775807 := rfl
  have hnews : ∀ j u, ([bV c] : List Value)[j]? = some u → w.cell? ((⟨blk, 0, none⟩ : Addr).add j) = some u := fun j u hu => by
    have hj : j = 0 := by
      have := (List.getElem?_eq_some_iff.1 hu).1
      simpa using this
    subst hj
    injection hu with hu
    subst hu
    have : (⟨blk, 0, none⟩ : Addr).add 0 = ⟨blk, 0, none⟩ := by unfold Addr.add; split <;> simp_all
    rw [this, cell_of_blk hx]
    rfl
  rcases hO with ⟨rfl, rfl⟩ | ⟨g, cap, cur, lo, hi2, rfl, hbg, hg, hf, hn, hm, hsz, htk⟩
  · obtain ⟨v', w', hr, h2, h3, _⟩ := run_append_own2 (P := P) w base t ty 5 i (.int .u8 0) 1 1 ht hi hz hs hb rfl (by decide) (.slice none 0 0) 0 [] (World.ownsRow_nil _ _ _ _) ⟨blk, 0, none⟩ 1 1 [bV c] rfl hnews (fun u hu => by rw [List.mem_singleton.1 hu]; rfl) (by omega) (by omega) hbase
    exact ⟨v', w', hr, bown_of_owns (L := [c]) h2, h3⟩
  · by_cases hroom : L.length < cap
    · have hcell : w.cell? ⟨g, L.length, none⟩ = some (cur[L.length]'(by omega)) := by rw [cell_of_blk hg, Array.getElem?_eq_getElem]
      have hfro : w.frozen? ⟨g, L.length, none⟩ = false := by
        simp only [World.frozen?, hg]
        rcases hf with hf | hf
        · simp; omega
        · simp; omega
      have hst : (store ⟨g, L.length, none⟩ (bV c)).run P w = .ok () (w.setCell ⟨g, L.length, none⟩ (bV c)) := by
        rw [run_store P w _ (bV c) _ rfl, hcell]
        simp [hfro]
      have hfc := run_firstCells_some (P := P) w i.size 1 ⟨blk, 0, none⟩ 1 1 [bV c] (by rw [hs]; rfl) hnews
      have hw := wrote_setCell hg L.length (bV c)
      refine ⟨.slice (some ⟨g, 0, none⟩) (L.length + 1) cap, w.setCell ⟨g, L.length, none⟩ (bV c), ?_, .inr ⟨g, cap, cur.setIfInBounds L.length (bV c), lo, hi2, by rw [List.length_append]; rfl, hbg, hw.at_, hf, by rw [List.length_append]; exact hroom, hm, by rw [Array.size_setIfInBounds]; exact hsz, ?_⟩, ⟨hw.os, hw.tape, hw.output, Nat.le_of_eq hw.size.symm, fun k _ hne => hw.block k (fun e => hne (by rw [e]; rfl))⟩⟩
      · have ha0 : (⟨g, 0, none⟩ : Addr).add (L.length * i.size) = ⟨g, L.length, none⟩ := by rw [hs, Nat.mul_one]; unfold Addr.add; split <;> simp_all
        have ha1 : (⟨g, L.length, none⟩ : Addr).add 0 = ⟨g, L.length, none⟩ := by unfold Addr.add; split <;> simp_all
        have hroom' : L.length + 1 ≤ cap := hroom
        simp [Builtin.append_, run_underlying ht, sizeOf, typeInfo, hi, Builtin.lenOf, hroom', hfc, storeCells, ha0, ha1, hst]
      · rw [Array.toList_setIfInBounds, List.map_append, List.length_append, ← htk]
        have hlt : L.length < (cur.toList.set L.length (bV c)).length := by have : cur.toList.length = cur.size := Array.length_toList; rw [List.length_set]; omega
        rw [show L.length + [c].length = L.length + 1 from rfl, List.take_succ_eq_append_getElem hlt, List.getElem_set_self, List.take_set_of_le (Nat.le_refl _)]
        rfl
    · have hc : L.length = cap := by omega
      have hlo : (L.map bV).length = L.length * i.size := by rw [List.length_map, hs, Nat.mul_one]
      have holds : ∀ j u, (L.map bV)[j]? = some u → w.cell? ((⟨g, 0, none⟩ : Addr).add j) = some u := fun j u hu => by
        have e : (⟨g, 0, none⟩ : Addr).add j = ⟨g, j, none⟩ := by unfold Addr.add; split <;> simp_all
        rw [e, cell_of_blk hg, ← Array.getElem?_toList]
        rw [← htk] at hu
        have hj := (List.getElem?_eq_some_iff.1 hu).1
        rw [List.length_take] at hj
        rwa [List.getElem?_take_of_lt (by omega)] at hu
      have hr := run_append_grow (P := P) w t ty 5 i (.int .u8 0) ht hi hz ⟨g, 0, none⟩ L.length cap (L.map bV) hlo holds ⟨blk, 0, none⟩ 1 1 [bV c] (by rw [hs]; rfl) hnews (by omega) (by omega) (growslice_fits (by omega) (by rw [hb]; omega))
      have hge := grownCap_ge w (L.length + 1) cap 5
      refine ⟨_, _, hr, ?_, ⟨rfl, rfl, rfl, by simp, fun k hk _ => hp_old (w := w.drew) hk⟩⟩
      refine .inr ⟨w.heap.size, grownCap w (L.length + 1) cap 5, _, 0, 0, by rw [List.length_append]; rfl, hbase, hp_new (w := w.drew) rfl, .inl (Nat.le_refl _), by rw [List.length_append]; exact hge, grownCap_le_maxLen w _ _ _ (by omega), ?_, ?_⟩
      · simp [Builtin.zeroCells, Value.cells]
        omega
      · rw [List.length_append]
        simp only [Array.toList_append, List.append_assoc, List.map_append, List.map_cons, List.map_nil]
        rw [← List.append_assoc]
        exact List.take_left' (by simp)
theorem wpList_push_byte {ops : Array Oper} {rest : List Oper} {o : Oper} {a : Act} {w : World} {Q : Exit → Act → World → Prop} (hgd : o.guard = none) (s x : Operand) (t : TypeId) (ho : o.op = .call { callee := .builtin .append, args := #[s, x], argTypes := #[t, t] })
    (base : Nat) (i : TypeInfo) (ht : P.underlying t = some (.slice 5)) (hi : P.info? 5 = some i ∧ i.zero = some (.int .u8 0) ∧ i.size = 1 ∧ i.bytes = 1)
    (L : List UInt8) (v : Value) (hs : a.eval s = v) (hO : BOwn base w L v) (blk : Nat) (fr : Nat × Nat) (c : UInt8) (hblk : w.heap[blk]? = some (.cells #[bV c] 5 fr)) (hx : a.eval x = .slice (some ⟨blk, 0, none⟩) 1 1)
    (hlen : L.length + 1 ≤ 140737488355328) (hbase : base ≤ w.heap.size)
    (h : ∀ v' w', BOwn base w' (L ++ [c]) v' → w.grownBy w' v.ownBlock → wpList P ops Q rest (a.put o.dst v') w') : wpList P ops Q (o :: rest) a w := by
  refine wpList_plain hgd fun K hK => ?_
  obtain ⟨v', w', hr, h2, h3⟩ := run_push_byte (P := P) w base t o.type i ht hi.1 hi.2.1 hi.2.2.1 hi.2.2.2 L v hO blk fr c hblk hlen hbase
  unfold Oper.wp execOp
  simp only [ho, resolve, invoke, builtin, Sem.run_bind, Sem.run_pure, Result.andThen_ok, List.map_toArray, List.map_cons, List.map_nil, hs, hx, hr]
  exact hK _ _ (h v' w' h2 h3)
end
end Go.Proofs.YtghahghbahcpfaaGreatDoor
/- The walks over package digest: Of; package sandbox: sum, Memo, Size. -/
namespace Go.Proofs.YtghahghbahcpfaaGreatDoor
open Go.RowKit Go.Lib

/-- digests -/
def EDig : ElemK Nat := cellK (fun d => Value.int .u64 (d : Nat)) fun _ => rfl
theorem ed_at {B : Nat → Prop} {w : World} {L : List Nat} {ao : Option Addr} {n cap : Nat} (h : EDig.Row B w L (.slice ao n cap)) {k : Nat} (hk : k < L.length) :
    ∃ b off, ao = some ⟨b, off, none⟩ ∧ b < w.heap.size ∧ w.cell? ⟨b, off + k, none⟩ = some (.int .u64 (L[k] : Nat)) := by
  obtain ⟨b, off, cs, rfl, _, h2, hc, hR⟩ := h.at hk
  have hR : cs = [Value.int .u64 (L[k] : Nat)] := hR
  subst hR
  have e0 : w.cell? ⟨b, off + k * 1 + 0, none⟩ = _ := hc 0 _ rfl
  rw [Nat.add_zero, Nat.mul_one] at e0
  exact ⟨b, off, rfl, h2, e0⟩
theorem leB_at {d j : Nat} (hj : j < 8) : (leB d)[j]'(by rw [leB_len]; exact hj) = UInt8.ofNat (d / 256 ^ j) := by simp [leB]
theorem leB_byte {d j : Nat} (hj : j < 8) : ((((leB d)[j]'(by rw [leB_len]; exact hj)).toNat : Nat) : Int) = ((d / 256 ^ j % 256 : Nat) : Int) := by
  rw [leB_at hj]; simp
theorem leB_int {d j : Nat} (hj : j < 8) : (d : Int) / 2 ^ (8 * j) % 256 = ((((leB d)[j]'(by rw [leB_len]; exact hj)).toNat : Nat) : Int) := by
  rw [leB_byte hj]
  have h : (2 : Int) ^ (8 * j) = ((256 ^ j : Nat) : Int) := by rw [Int.pow_mul]; simp
  rw [h]
  omega
theorem Tryz.infoB5 : (Tryz.prog.info? 5).map (fun i => (i.zero, i.size, i.bytes)) = some (some (.int .u8 0), 1, 1) := by kernel_rfl
theorem Tryz.infoB5' : ∃ i, Tryz.prog.info? 5 = some i ∧ i.zero = some (.int .u8 0) ∧ i.size = 1 ∧ i.bytes = 1 := info_parts Tryz.infoB5
theorem bown_alloc {base : Nat} {w : World} {L : List UInt8} {v : Value} (h : BOwn base w L v) (o : Obj) : BOwn base (w.alloc o) L v := bown_keep h fun k hk => hp_old (bown_low h k hk).2
def OfRel (l : List UInt8) (ds : List Nat) (w : World) (f : Nat) (t5 t15 : Value) (wr : World) : Prop :=
  ∃ k : Nat, t15 = .int .i64 (k : Nat) ∧ k ≤ ds.length ∧ f = ds.length - k ∧ BOwn w.heap.size wr (l ++ 0 :: (ds.take k).flatMap leB) t5 ∧ Below w.heap.size w wr
def OgRel (l : List UInt8) (d : Nat) (w : World) (f : Nat) (t5 t19 : Value) (wr : World) : Prop :=
  ∃ j : Nat, t19 = .int .i64 (j : Nat) ∧ j ≤ 8 ∧ f = 8 - j ∧ BOwn w.heap.size wr (l ++ (leB d).take j) t5 ∧ Below w.heap.size w wr
theorem flat_len (ds : List Nat) : (ds.flatMap leB).length = 8 * ds.length := by
  induction ds with
  | nil => rfl
  | cons d ds ih => rw [List.flatMap_cons, List.length_append, ih, leB_len, List.length_cons]; omega
set_option maxRecDepth 100000 in
set_option maxHeartbeats 3200000 in
theorem of_any (s : ByteArray) (ds : List Nat) (v : Value) (B : Nat → Prop) (hs : s.size ≤ 1000000) (hn : ds.length ≤ 1000000) (hd : ∀ d ∈ ds, d < 18446744073709551616) (w : World) (h : EDig.Row B w ds v) :
    Calls Tryz.prog 38 #[.string s, v] w fun e w' => e = .returned (.int .u64 (ofN s.data.toList ds : Nat)) ∧ Below w.heap.size w w' := by
  obtain ⟨ao, cap, rfl⟩ := h.form
  have HR := Lib.hid h
  have HD := Lib.hid hd
  have HSL : Hid (s.data.toList.length = s.size) := rfl
  obtain ⟨i5, hi5⟩ := Tryz.infoB5'
  have HI := Lib.hid hi5
  have hrun := Lib.run_convert_string_bytes (P := Tryz.prog) w 9 78 5 s Tryz.underlying9 Tryz.underlying78 Tryz.underlying5
  have HB1 : Hid (Below w.heap.size w (Lib.bytesWorld w 5 s)) := ⟨rfl, rfl, rfl, by rw [Lib.bytesWorld_size]; omega, fun k hk => Lib.bytesWorld_at_old w 5 s k hk⟩
  have HO1 := Lib.hid (bown_conv w s (by unfold maxLen; omega))
  generalize Lib.bytesWorld w 5 s = w1 at *
  generalize grownCap w s.size 0 5 = gc at *
  have HO2 := Lib.hid (bown_alloc HO1.out (.cells #[.int .u8 0] 5))
  have hz1 := HB1.out.size
  clear h hd hi5
  go_enter Tryz.func38, Tryz.ntmps38
  go_wp2_with (at_builtin; refine wpList_push_byte rfl _ _ 78 rfl w.heap.size i5 Tryz.underlying78 HI.out s.data.toList _ rfl HO2.out w1.heap.size (0, 0) 0 (hp_new rfl) rfl (by have := HSL.out; omega) (by simp; omega) ?_)
  intro v2 w2 hO2 hgr
  have HOB : Hid (BOwn w.heap.size w2 (s.data.toList ++ [0]) v2) := hO2
  have HB2 : Hid (Below w.heap.size w w2) := (HB1.out.alloc hz1 _).trans (below_grown hgr (by simp; omega) (fun q e => (bown_low HO2.out q e).1))
  clear hO2 hgr HO2 HO1 hrun HB1 hz1
  go_wp2_with fail
  go_loopg [5, 15] ds.length (OfRel s.data.toList ds w)
  case atStart => exact ⟨0, rfl, Nat.zero_le _, rfl, HOB.out, HB2.out⟩
  case round =>
    obtain ⟨wz, hwz⟩ : ∃ wz : World, wz = wr := ⟨_, rfl⟩
    subst hwz
    obtain ⟨k, rfl, hk, rfl, hO, hb⟩ := hrel
    have HO := Lib.hid hO
    have HB := Lib.hid hb
    clear hO hb HOB HB2
    by_cases hlt : k < ds.length
    · have hii : (k : Int) < (ds.length : Int) := by omega
      obtain ⟨b, off, hao, hbl, y0⟩ := ed_at (HR.out.below HB.out) hlt
      subst hao
      have HD1 := Lib.hid (HD.out _ (List.getElem_mem hlt))
      have HTK : Hid (s.data.toList ++ 0 :: (ds.take (k + 1)).flatMap leB = (s.data.toList ++ 0 :: (ds.take k).flatMap leB) ++ leB ds[k]) := by
        unfold Hid; rw [List.take_succ_eq_append_getElem hlt, List.flatMap_append, List.append_assoc]; simp
      have HL1 : Hid ((s.data.toList ++ 0 :: (ds.take k).flatMap leB).length ≤ 9000001) := by
        unfold Hid; rw [List.length_append, List.length_cons, flat_len, List.length_take]; have := HSL.out; omega
      have HLT := Lib.hid hlt
      generalize ds[k] = d at *
      generalize s.data.toList ++ 0 :: (ds.take k).flatMap leB = l1 at *
      as_aux_lemma =>
      go_wp2_with fail
      clear y0
      go_loopg [5, 19] 8 (OgRel l1 d w)
      case atStart => exact ⟨0, rfl, Nat.zero_le _, rfl, by rw [List.take_zero, List.append_nil]; exact HO.out, HB.out⟩
      case round =>
        clear HO HB
        obtain ⟨wv, hwv⟩ : ∃ wv : World, wv = wr := ⟨_, rfl⟩
        subst hwv
        obtain ⟨j, rfl, hj, rfl, hO, hb⟩ := hrel
        have HO := Lib.hid hO
        have HB := Lib.hid hb
        clear hO hb
        by_cases hj8 : j < 8
        · have hjj : (j : Int) < 8 := by omega
          have q8 : IntKind.i64.wrap (8 * (j : Int)) = 8 * (j : Int) := IntWalk.i64_in _ (by omega)
          have q80 : (0 : Int) ≤ 8 * (j : Int) := by omega
          have HTJ : Hid (l1 ++ (leB d).take (j + 1) = (l1 ++ (leB d).take j) ++ [(leB d)[j]'(by rw [leB_len]; exact hj8)]) := by
            unfold Hid; rw [List.take_succ_eq_append_getElem (by rw [leB_len]; exact hj8), List.append_assoc]
          have hX := leB_int (d := d) hj8
          have HLJ : Hid ((l1 ++ (leB d).take j).length ≤ 9000009) := by unfold Hid; rw [List.length_append, List.length_take]; have := HL1.out; omega
          generalize (leB d)[j]'(by rw [leB_len]; exact hj8) = c at *
          generalize l1 ++ (leB d).take j = l2 at *
          have hz2 := HB.out.size
          have HO2 := Lib.hid (bown_alloc HO.out (.cells #[bV c] 5))
          as_aux_lemma =>
          go_wp2_with (at_builtin; refine wpList_push_byte rfl _ _ 78 rfl w.heap.size i5 Tryz.underlying78 HI.out l2 _ rfl HO2.out wv.heap.size (0, 0) c (hp_new rfl) rfl (by have := HLJ.out; omega) (by simp; omega) ?_)
          intro v3 w3 hO3 hgr
          have HO3 : Hid (BOwn w.heap.size w3 (l2 ++ [c]) v3) := hO3
          have HB3 : Hid (Below w.heap.size w w3) := (HB.out.alloc hz2 _).trans (below_grown hgr (by simp; omega) (fun q e => (bown_low HO2.out q e).1))
          clear hO3 hgr HO2
          go_wp2_with fail
          go_roundg (8 - (j + 1))
          case measure => omega
          case rel => exact ⟨j + 1, by go_num, by omega, rfl, by rw [HTJ.out]; exact HO3.out, HB3.out⟩
        · have hjj : ¬ (j : Int) < 8 := by omega
          have he : (leB d).take j = leB d := List.take_of_length_le (by rw [leB_len]; omega)
          rw [he, ← HTK.out] at HO
          clear he hj hj8
          as_aux_lemma =>
          go_wp2_with fail
          go_roundg (ds.length - (k + 1))
          case measure => have := HLT.out; omega
          case rel => exact ⟨k + 1, by go_num, HLT.out, rfl, HO.out, HB.out⟩
    · have hii : ¬ (k : Int) < (ds.length : Int) := by omega
      have he : ds.take k = ds := List.take_of_length_le (by omega)
      rw [he] at HO
      have HSM := Lib.hid (dsum_any _ _ _ wz (by rw [List.length_append, List.length_cons, flat_len]; have := HSL.out; omega) (bown_row HO.out))
      clear he hk hlt HR HD
      as_aux_lemma =>
      go_wp2_with fail
      refine HSM.out.mono ?_
      rintro e w3 ⟨rfl, rfl⟩
      go_wp2_with fail
      go_ret
      exact ⟨rfl, HB.out⟩
end Go.Proofs.YtghahghbahcpfaaGreatDoor
/- The walks over package sandbox's sum, Memo, Size and over the reference's digests of strings. -/
namespace Go.Proofs.YtghahghbahcpfaaGreatDoor
open Go.RowKit Go.Lib

set_option maxRecDepth 100000 in
set_option maxHeartbeats 1600000 in
theorem sum_any (s : ByteArray) (hs : s.size ≤ 1000000) (w : World) :
    Calls Tryz.prog 39 #[.string s] w fun e w' => e = .returned (.int .u64 (sumS s : Nat)) ∧ Below w.heap.size w w' := by
  have hrun := Lib.run_convert_string_bytes (P := Tryz.prog) w 9 78 5 s Tryz.underlying9 Tryz.underlying78 Tryz.underlying5
  have HB1 : Hid (Below w.heap.size w (Lib.bytesWorld w 5 s)) := ⟨rfl, rfl, rfl, by rw [Lib.bytesWorld_size]; omega, fun k hk => Lib.bytesWorld_at_old w 5 s k hk⟩
  have HO1 := Lib.hid (bown_conv w s (by unfold maxLen; omega))
  generalize Lib.bytesWorld w 5 s = w1 at *
  generalize grownCap w s.size 0 5 = gc at *
  have HSL : s.data.toList.length = s.size := rfl
  have HSM := Lib.hid (dsum_any s.data.toList _ _ w1 (by omega) (bown_row HO1.out))
  clear HSL
  go_enter Tryz.func39, Tryz.ntmps39
  go_wp2_with fail
  refine HSM.out.mono ?_
  rintro e w3 ⟨rfl, rfl⟩
  go_wp2_with fail
  go_ret
  exact ⟨rfl, HB1.out⟩
theorem ed_one {w : World} {blk : Nat} {x : Nat} {t : TypeId} (h : w.heap[blk]? = some (.cells #[.int .u64 (x : Nat)] t (0, 0))) : EDig.Row (fun _ => True) w [x] (.slice (some ⟨blk, 0, none⟩) 1 1) :=
  .inr ⟨blk, 0, 1, rfl, trivial, (Array.getElem?_eq_some_iff.1 h).1, Nat.le_refl _, fun k hk => ⟨[.int .u64 (x : Nat)], fun j u hu => by
    have hk : k = 0 := by simpa using hk
    have hj : j = 0 := by
      have := (List.getElem?_eq_some_iff.1 hu).1
      simpa using this
    subst hk hj
    injection hu with hu
    subst hu
    rw [cell_of_blk h]; rfl, by
    have hk : k = 0 := by simpa using hk
    subst hk
    rfl⟩⟩
set_option maxRecDepth 100000 in
set_option maxHeartbeats 1600000 in
theorem memo_any (s : ByteArray) (hs : s.size ≤ 1000000) (w : World) :
    Calls Tryz.prog 15 #[.string s] w fun e w' => e = .returned (.int .u64 (memoF s : Nat)) ∧ Below w.heap.size w w' := by
  have HX : Hid (sumS s < 18446744073709551616) := sumN_lt _
  have HM : Hid (memoF s = ofN [107, 101, 121] [sumS s]) := rfl
  have HS := Lib.hid (sum_any s hs w)
  generalize sumS s = x at *
  generalize memoF s = r at *
  go_enter Tryz.func15, Tryz.ntmps15
  go_wp2_with fail
  refine HS.out.mono ?_
  rintro e w2 ⟨rfl, hb⟩
  have HB := Lib.hid hb
  have hz := hb.size
  clear hb HS
  have HOF := Lib.hid (of_any ⟨#[107, 101, 121]⟩ [x] _ _ (by decide) (by show 1 ≤ 1000000; decide) (fun d hd => by rw [List.mem_singleton.1 hd]; exact HX.out) (w2.alloc (.cells #[.int .u64 (x : Nat)] 58)) (ed_one (hp_new rfl)))
  go_wp2_with fail
  refine HOF.out.mono ?_
  rintro e w3 ⟨rfl, hb⟩
  have HB3 := Lib.hid ((HB.out.alloc hz _).trans (hb.mono (by simp; omega)))
  clear hb
  go_wp2_with fail
  go_ret
  exact ⟨ret_int (by rw [HM.out]), HB3.out⟩
set_option maxRecDepth 100000 in
theorem size_any (d : Nat) (w : World) : Calls Tryz.prog 22 #[.int .u64 (d : Nat)] w fun e w' => e = .returned (.int .i64 (sizeF d)) ∧ w' = w := by
  obtain ⟨r, hr⟩ : ∃ r, d % 65536 = r := ⟨_, rfl⟩
  have HS : Hid (sizeF d = 1 + (r : Int)) := by unfold Hid sizeF; rw [hr]
  have hd : (d : Int) % 65536 = (r : Int) := by omega
  have hr2 : r < 65536 := by omega
  clear hr
  generalize sizeF d = z at *
  go_enter Tryz.func22, Tryz.ntmps22
  go_wp2
  go_ret
  exact ⟨ret_int HS.out.symm, rfl⟩
end Go.Proofs.YtghahghbahcpfaaGreatDoor
/- The walks over the reference's digests of strings: bytes, Of, Sum, Memo, Size. -/
namespace Go.Proofs.YtghahghbahcpfaaGreatDoor
open Go.RowKit Go.Lib

end Go.Proofs.YtghahghbahcpfaaGreatDoor
