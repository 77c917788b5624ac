/- Contracts of the library laid at this seat, the numbers by name (out of what lay-shelf.mjs and lay-plain.mjs had written at an earlier seat). -/
import Derived.Shelf.LaysM
import Derived.Shelf.Strings.Split
import Derived.Test.YtghahghbahcpfaaGreatDoorProg
import Derived.Lib.SplitLaws
import Derived.Test.YtghahghbahcpfaaGreatDoorVa1
import Derived.Test.YtghahghbahcpfaaGreatDoorVs61
namespace Go.Proofs
open Go.Shelf
def Tryz.lays146_ren : Go.Shelf.Ren := ⟨fun | 146 => 134 | 221 => 154 | 268 => 175 | 138 => 176 | 143 => 177 | 195 => 191 | 197 => 192 | 218 => 193 | 219 => 194 | 260 => 198 | 217 => 199 | 225 => 200 | 224 => 201 | 267 => 202 | 266 => 204 | 314 => 205 | n => n, fun | 9 => 9 | 31 => 22 | 3 => 3 | 4 => 4 | 0 => 0 | 105 => 254 | 21 => 21 | 5 => 5 | 46 => 197 | 119 => 263 | 139 => 266 | 138 => 265 | 146 => 267 | 51 => 199 | n => n, fun | 1 => 0 | 3 => 1 | 4 => 2 | n => n⟩
theorem Tryz.lays146 : Go.Proofs.Lays.n146 Tryz.prog Tryz.lays146_ren := {
  mixed := by kernel_rfl
  f138 := Tryz.func176.trans (congrArg some (by kernel_rfl))
  f143 := Tryz.func177.trans (congrArg some (by kernel_rfl))
  f146 := Tryz.func134.trans (congrArg some (by kernel_rfl))
  f195 := Tryz.func191.trans (congrArg some (by kernel_rfl))
  f197 := Tryz.func192.trans (congrArg some (by kernel_rfl))
  f217 := Tryz.func199.trans (congrArg some (by kernel_rfl))
  f218 := Tryz.func193.trans (congrArg some (by kernel_rfl))
  f219 := Tryz.func194.trans (congrArg some (by kernel_rfl))
  f221 := Tryz.func154.trans (congrArg some (by kernel_rfl))
  f224 := Tryz.func201.trans (congrArg some (by kernel_rfl))
  f225 := Tryz.func200.trans (congrArg some (by kernel_rfl))
  f260 := Tryz.func198.trans (congrArg some (by kernel_rfl))
  f266 := Tryz.func204.trans (congrArg some (by kernel_rfl))
  f267 := Tryz.func202.trans (congrArg some (by kernel_rfl))
  f268 := Tryz.func175.trans (congrArg some (by kernel_rfl))
  f314 := Tryz.func205.trans (congrArg some (by kernel_rfl))
  t0 := Tryz.underlying0
  a0 := Tryz.isAgg0
  z0 := Tryz.sizeOf0
  v0 := Tryz.zeroValue0
  t3 := Tryz.underlying3
  a3 := Tryz.isAgg3
  z3 := Tryz.sizeOf3
  v3 := Tryz.zeroValue3
  t4 := Tryz.underlying4
  a4 := Tryz.isAgg4
  z4 := Tryz.sizeOf4
  v4 := Tryz.zeroValue4
  t5 := Tryz.underlying5
  a5 := Tryz.isAgg5
  z5 := Tryz.sizeOf5
  v5 := Tryz.zeroValue5
  t9 := Tryz.underlying9
  a9 := Tryz.isAgg9
  z9 := Tryz.sizeOf9
  v9 := Tryz.zeroValue9
  t21 := Tryz.underlying21
  a21 := Tryz.isAgg21
  z21 := Tryz.sizeOf21
  v21 := Tryz.zeroValue21
  t31 := Tryz.underlying22
  a31 := Tryz.isAgg22
  z31 := Tryz.sizeOf22
  v31 := Tryz.zeroValue22
  t46 := Tryz.underlying197
  a46 := Tryz.isAgg197
  z46 := Tryz.sizeOf197
  v46 := Tryz.zeroValue197
  t51 := Tryz.underlying199
  a51 := Tryz.isAgg199
  z51 := Tryz.sizeOf199
  v51 := Tryz.zeroValue199
  t105 := Tryz.underlying254
  a105 := Tryz.isAgg254
  z105 := Tryz.sizeOf254
  v105 := Tryz.zeroValue254
  t119 := Tryz.underlying263
  a119 := Tryz.isAgg263
  z119 := Tryz.sizeOf263
  t138 := Tryz.underlying265
  a138 := Tryz.isAgg265
  z138 := Tryz.sizeOf265
  v138 := Tryz.zeroValue265
  t139 := Tryz.underlying266
  a139 := Tryz.isAgg266
  z139 := Tryz.sizeOf266
  v139 := Tryz.zeroValue266
  t146 := Tryz.underlying267
  a146 := Tryz.isAgg267
  z146 := Tryz.sizeOf267
  v146 := Tryz.zeroValue267
  g1 := by kernel_rfl
  g3 := by kernel_rfl
  g4 := by kernel_rfl }
open Go.RowKit Go.Lib in
/-- strings.Split. (LAID: no walk: one application.) -/
theorem Tryz.strings_Split (s sep : ByteArray) (m : Int) (w : World) (hs : s.size < 4294967281) (hm : w.cell? ⟨0, 0, none⟩ = some (.int .i64 m)) (h1 : 1 ≤ sep.size) :
    Calls Tryz.prog 134 #[.string s, .string sep] w fun e w' =>
      e = .returned (.slice (some ⟨w.heap.size, 0, none⟩) (Lib.countB s sep + 1) (Lib.countB s sep + 1)) ∧ w' = w.alloc (.cells ((Lib.splitB sep 0 (Lib.countB s sep) s).map Value.string).toArray 9) := Any.strings_Split Tryz.lays146 (by kernel_rfl) s sep m w hs hm h1
def Tryz.laysM146_ren : Go.Shelf.Ren := ⟨fun | 146 => 134 | 221 => 154 | 268 => 175 | 138 => 176 | 143 => 177 | 195 => 191 | 197 => 192 | 218 => 193 | 219 => 194 | 260 => 198 | 217 => 199 | 225 => 200 | 224 => 201 | 267 => 202 | 266 => 204 | 314 => 205 | n => n, fun | 9 => 9 | 31 => 22 | 3 => 3 | 4 => 4 | 0 => 0 | 105 => 254 | 21 => 21 | 5 => 5 | 46 => 197 | 119 => 263 | 139 => 266 | 138 => 265 | 146 => 267 | 51 => 199 | n => n, fun | 1 => 0 | 3 => 1 | 4 => 2 | n => n⟩
theorem Tryz.laysM146 : Go.Proofs.LaysM.n146 Tryz.prog Tryz.laysM146_ren := {
  mixed := by kernel_rfl
  f138 := Tryz.func176.trans (congrArg some (by kernel_rfl))
  f143 := Tryz.func177.trans (congrArg some (by kernel_rfl))
  f146 := Tryz.func134.trans (congrArg some (by kernel_rfl))
  f195 := Tryz.func191.trans (congrArg some (by kernel_rfl))
  f197 := Tryz.func192.trans (congrArg some (by kernel_rfl))
  f217 := Tryz.func199.trans (congrArg some (by kernel_rfl))
  f218 := Tryz.func193.trans (congrArg some (by kernel_rfl))
  f219 := Tryz.func194.trans (congrArg some (by kernel_rfl))
  f221 := Tryz.func154.trans (congrArg some (by kernel_rfl))
  f224 := Tryz.func201.trans (congrArg some (by kernel_rfl))
  f225 := Tryz.func200.trans (congrArg some (by kernel_rfl))
  f260 := Tryz.func198.trans (congrArg some (by kernel_rfl))
  f266 := Tryz.func204.trans (congrArg some (by kernel_rfl))
  f267 := Tryz.func202.trans (congrArg some (by kernel_rfl))
  f268 := Tryz.func175.trans (congrArg some (by kernel_rfl))
  f314 := Tryz.func205.trans (congrArg some (by kernel_rfl))
  t0 := Tryz.underlying0
  a0 := Tryz.isAgg0
  z0 := Tryz.sizeOf0
  v0 := Tryz.zeroValue0
  t3 := Tryz.underlying3
  a3 := Tryz.isAgg3
  z3 := Tryz.sizeOf3
  v3 := Tryz.zeroValue3
  t4 := Tryz.underlying4
  a4 := Tryz.isAgg4
  z4 := Tryz.sizeOf4
  v4 := Tryz.zeroValue4
  t5 := Tryz.underlying5
  a5 := Tryz.isAgg5
  z5 := Tryz.sizeOf5
  v5 := Tryz.zeroValue5
  t9 := Tryz.underlying9
  a9 := Tryz.isAgg9
  z9 := Tryz.sizeOf9
  v9 := Tryz.zeroValue9
  t21 := Tryz.underlying21
  a21 := Tryz.isAgg21
  z21 := Tryz.sizeOf21
  v21 := Tryz.zeroValue21
  t31 := Tryz.underlying22
  a31 := Tryz.isAgg22
  z31 := Tryz.sizeOf22
  v31 := Tryz.zeroValue22
  t46 := Tryz.underlying197
  a46 := Tryz.isAgg197
  z46 := Tryz.sizeOf197
  v46 := Tryz.zeroValue197
  t51 := Tryz.underlying199
  a51 := Tryz.isAgg199
  z51 := Tryz.sizeOf199
  v51 := Tryz.zeroValue199
  t105 := Tryz.underlying254
  a105 := Tryz.isAgg254
  z105 := Tryz.sizeOf254
  v105 := Tryz.zeroValue254
  t119 := Tryz.underlying263
  a119 := Tryz.isAgg263
  z119 := Tryz.sizeOf263
  t138 := Tryz.underlying265
  a138 := Tryz.isAgg265
  z138 := Tryz.sizeOf265
  v138 := Tryz.zeroValue265
  t139 := Tryz.underlying266
  a139 := Tryz.isAgg266
  z139 := Tryz.sizeOf266
  v139 := Tryz.zeroValue266
  t146 := Tryz.underlying267
  a146 := Tryz.isAgg267
  z146 := Tryz.sizeOf267
  v146 := Tryz.zeroValue267
  g1 := by kernel_rfl
  g3 := by kernel_rfl
  g4 := by kernel_rfl
  i0 := by kernel_rfl
  i3 := by kernel_rfl
  i4 := by kernel_rfl
  i5 := by kernel_rfl
  i9 := by kernel_rfl
  i21 := by kernel_rfl
  i31 := by kernel_rfl
  i46 := by kernel_rfl
  i51 := by kernel_rfl
  i105 := by kernel_rfl
  i138 := by kernel_rfl
  i139 := by kernel_rfl
  i146 := by kernel_rfl
  m1 := by kernel_rfl
  s1_3 := fun w h => Go.Proofs.cell_of_shapedOpen_int (zero := #[.int .i64 0]) (t := 3) h (of_decide_eq_true (by kernel_rfl)) (by kernel_rfl) rfl (by kernel_rfl) (by kernel_rfl) Tryz.underlying3
  m3 := by kernel_rfl
  m4 := by kernel_rfl }
end Go.Proofs
/- The pieces of a path, and its names: plain facts, no program in sight. -/
namespace Go.Proofs.YtghahghbahcpfaaGreatDoor

/-- l cut at every c -/
def pcs (c : UInt8) : List UInt8 → List (List UInt8)
  | [] => [[]]
  | b :: l => if b = c then [] :: pcs c l else (b :: (pcs c l).headD []) :: (pcs c l).tail

theorem pcs_ne (c : UInt8) (l : List UInt8) : pcs c l = (pcs c l).headD [] :: (pcs c l).tail := by
  cases l with
  | nil => rfl
  | cons b l => rw [pcs]; split <;> rfl

theorem idx_nil (c : UInt8) : Lib.index [] [c] = -1 := by simp [Lib.index]
theorem idx_eq (c : UInt8) (l : List UInt8) : Lib.index (c :: l) [c] = 0 := by rw [Lib.index]; simp [List.isPrefixOf]
theorem idx_ne {b c : UInt8} (h : b ≠ c) (l : List UInt8) : Lib.index (b :: l) [c] = if Lib.index l [c] == -1 then -1 else Lib.index l [c] + 1 := by
  have hp : ([c] : List UInt8).isPrefixOf (b :: l) = false := by simp [List.isPrefixOf, Ne.symm h]
  rw [Lib.index, hp]; simp

theorem pcs_none (c : UInt8) : ∀ l : List UInt8, Lib.index l [c] = -1 → pcs c l = [l]
  | [], _ => rfl
  | b :: l, h => by
    by_cases e : b = c
    · subst e; rw [idx_eq] at h; cases h
    · rw [idx_ne e] at h
      have h1 : Lib.index l [c] = -1 := by
        by_cases h2 : Lib.index l [c] = -1
        · exact h2
        · rw [if_neg (by simpa using h2)] at h
          have := Lib.index_ge l [c]
          omega
      rw [pcs, if_neg e, pcs_none c l h1]; rfl

theorem pcs_some (c : UInt8) : ∀ (l : List UInt8) (i : Nat), Lib.index l [c] = i → pcs c l = l.take i :: pcs c (l.drop (i + 1))
  | [], i, h => by rw [idx_nil] at h; omega
  | b :: l, i, h => by
    by_cases e : b = c
    · subst e
      rw [idx_eq] at h
      obtain rfl : i = 0 := by omega
      rw [pcs, if_pos rfl]; rfl
    · rw [idx_ne e] at h
      by_cases h2 : Lib.index l [c] = -1
      · rw [if_pos (by simpa using h2)] at h; omega
      · rw [if_neg (by simpa using h2)] at h
        have := Lib.index_ge l [c]
        obtain ⟨j, rfl⟩ : ∃ j, i = j + 1 := ⟨i - 1, by omega⟩
        have ih := pcs_some c l j (by omega)
        rw [pcs, if_neg e, ih]; rfl

theorem splitK_pcs (c : UInt8) : ∀ (k : Nat) (l : List UInt8), Lib.count l [c] ≤ k → Lib.splitK [c] 0 k l = pcs c l
  | 0, l, h => by
    have : Lib.index l [c] = -1 := by
      by_cases h2 : Lib.index l [c] = -1
      · exact h2
      · have hg := Lib.index_ge l [c]
        obtain ⟨j, hj⟩ : ∃ j : Nat, Lib.index l [c] = j := ⟨(Lib.index l [c]).toNat, by omega⟩
        have := Lib.count_hit (by simp) hj
        omega
    rw [pcs_none c l this]; rfl
  | k + 1, l, h => by
    rw [Lib.splitK]
    by_cases h2 : Lib.index l [c] = -1
    · rw [if_pos (by simpa using h2), pcs_none c l h2]
    · rw [if_neg (by simpa using h2)]
      have hg := Lib.index_ge l [c]
      obtain ⟨j, hj⟩ : ∃ j : Nat, Lib.index l [c] = j := ⟨(Lib.index l [c]).toNat, by omega⟩
      have hc := Lib.count_hit (by simp) hj
      rw [hj, pcs_some c l j hj]
      have ih := splitK_pcs c k (l.drop (j + 1)) (by simp at hc; omega)
      simp only [Int.toNat_natCast, Nat.add_zero, List.length_cons, List.length_nil, Nat.zero_add]
      rw [ih]

/-- a piece under way, put ahead of the first -/
def glue (p : List UInt8) (L : List (List UInt8)) : List (List UInt8) := (p ++ L.headD []) :: L.tail

theorem glue_nil (c : UInt8) (l : List UInt8) : glue [] (pcs c l) = pcs c l := by
  unfold glue; rw [List.nil_append]; exact (pcs_ne c l).symm

theorem glue_hit (c : UInt8) (p l : List UInt8) : glue p (pcs c (c :: l)) = p :: glue [] (pcs c l) := by
  rw [glue_nil, pcs, if_pos rfl]; unfold glue; simp

theorem glue_miss {b c : UInt8} (h : b ≠ c) (p l : List UInt8) : glue p (pcs c (b :: l)) = glue (p ++ [b]) (pcs c l) := by
  rw [pcs, if_neg h]; unfold glue; simp

theorem glue_end (c : UInt8) (p : List UInt8) : glue p (pcs c []) = [p] := by unfold glue; simp [pcs]

end Go.Proofs.YtghahghbahcpfaaGreatDoor
/- The walk over sandbox's chosen at strings; the words of a text. -/
namespace Go.Proofs.YtghahghbahcpfaaGreatDoor
open Go.RowKit

theorem Tryz.infoStr : (Tryz.prog.info? 9).map (fun i => (i.zero, i.size, i.bytes)) = some (some (.string ⟨#[]⟩), 1, 16) := by kernel_rfl
theorem Tryz.infoStr' : ∃ i, Tryz.prog.info? 9 = some i ∧ i.zero = some (.string ⟨#[]⟩) ∧ i.size = 1 ∧ i.bytes = 16 := info_parts Tryz.infoStr
def ChsRel (p : ByteArray → Bool) (L : List ByteArray) (base : Nat) (f : Nat) (t5 t10 : Value) (wr : World) (w1 : World) : Prop :=
  ∃ i : Nat, t10 = .int .i64 (i : Nat) ∧ i ≤ L.length ∧ f = L.length - i ∧ EStr.Own 9 base noB wr ((L.take i).filter p) t5 ∧ Below w1.heap.size w1 wr ∧ base = w1.heap.size
theorem filter_step {α : Type} (p : α → Bool) (L : List α) {i : Nat} (h : i < L.length) : (L.take (i + 1)).filter p = if p L[i] = true then (L.take i).filter p ++ [L[i]] else (L.take i).filter p := by
  rw [List.take_succ_eq_append_getElem h, List.filter_append]
  cases hp : p L[i] with
  | true => rw [if_pos rfl, List.filter_cons_of_pos hp]; rfl
  | false => rw [if_neg (by simp), List.filter_cons_of_neg (by simp [hp])]; simp
theorem filter_take_len {α : Type} (p : α → Bool) (L : List α) (i : Nat) : ((L.take i).filter p).length ≤ L.length :=
  Nat.le_trans (List.length_filter_le _ _) (by rw [List.length_take]; exact Nat.min_le_right _ _)
set_option maxRecDepth 100000 in
set_option maxHeartbeats 3200000 in
theorem chosen_s (g : Nat) (caps : Array Value) (p : ByteArray → Bool) (L : List ByteArray) (v : Value) (B : Nat → Prop) (hl : L.length ≤ 1000000) (w : World) (h : EStr.Row B w L v)
    (hg : ∀ (k : Nat) (hk : k < L.length) (W : World), Below w.heap.size w W → Calls Tryz.prog g (#[.string L[k]] ++ caps) W fun e w' => e = .returned (.bool (p L[k])) ∧ Below W.heap.size W w')
    (eg : ∀ args w, (callFunc g args).run Tryz.prog w = .ok (.enter g args) w) :
    Calls Tryz.prog 133 #[v, .func (.func g) #[] caps] w fun e w' => ∃ u, e = .returned u ∧ EStr.Own 9 w.heap.size noB w' (L.filter p) u ∧ Below w.heap.size w w' := by
  obtain ⟨ao, cap, rfl⟩ := h.form
  obtain ⟨iS, hiS, hzS, hnS, hyS⟩ := Tryz.infoStr'
  have HI := Lib.hid hiS
  have H := Lib.hid h
  have HG := Lib.hid hg
  clear h hg hiS
  go_enter Tryz.func133, Tryz.ntmps133
  go_wp2_with fail
  go_loopg [5, 10] L.length (fun f t5 t10 wr => ChsRel p L w.heap.size f t5 t10 wr w)
  case atStart => exact ⟨0, rfl, Nat.zero_le _, rfl, ElemK.Own.nil, Below.refl _ _, rfl⟩
  case round =>
    obtain ⟨i, rfl, hi, rfl, hown, hbel, _⟩ := hrel
    have HB := Lib.hid hbel
    obtain ⟨co, cc, rfl⟩ := hown.form
    have HO := Lib.hid hown
    clear hown hbel
    by_cases hlt : i < L.length
    · obtain ⟨b1, o1, rfl, _, hc1⟩ := strs_at (H.out.below HB.out) hlt
      have hii : (i : Int) < (L.length : Int) := by omega
      have CG := Lib.hid (HG.out i hlt wr HB.out)
      have HF := Lib.hid (filter_step p L hlt)
      have hfl := filter_take_len p L i
      generalize L[i] = y at *
      generalize hA : (L.take i).filter p = A at *
      clear hA
      as_aux_lemma =>
      go_wp2_with fail
      refine CG.out.mono ?_
      rintro e w5 ⟨rfl, hb⟩
      have HB5 := Lib.hid (HB.out.trans (hb.mono HB.out.size))
      have HO5 := Lib.hid (HO.out.below hb)
      clear hb CG HO hc1
      have hz5 := HB5.out.size
      cases hp : p y with
      | true =>
        rw [hp, if_pos rfl] at HF
        obtain ⟨wa, hwa⟩ : ∃ wa, w5.alloc (.cells #[.string y] 9 (0, 0)) = wa := ⟨_, rfl⟩
        have hka : wa.heap[w5.heap.size]? = some (.cells #[.string y] 9 (0, 0)) := by rw [← hwa]; exact hp_new rfl
        have HBA : Hid (Below w5.heap.size w5 wa) := by unfold Hid; rw [← hwa]; exact (Below.refl _ _).alloc (Nat.le_refl _) _
        have HWA := Lib.hid hwa
        have HOA := Lib.hid (HO5.out.below HBA.out)
        have hza := HBA.out.size
        clear hp hwa HO5
        go_wp2_with (at_builtin; rw [HWA.out]; refine wpList_own_push (E := EStr) rfl _ _ 22 rfl w.heap.size 9 iS _ 16 Tryz.underlying22 HI.out hzS hnS hyS rfl _ (.slice co A.length cc) rfl HOA.out y [.string y] rfl w5.heap.size (0, 0) hka rfl (by unfold maxLen; omega) (by omega) (by omega) ?_)
        intro v6 w6 hown hgrow hpu
        obtain ⟨g6, p6, hv6⟩ := hpu.form
        subst hv6
        have HO6 := Lib.hid hown
        have HB6 : Hid (Below w.heap.size w w6) := (HB5.out.trans (HBA.out.mono HB5.out.size)).trans (below_grown hgrow (by omega) (fun q e => (HOA.out.low q e).1))
        clear hown hgrow hpu hka HOA HWA
        go_wp2_with fail
        go_roundg (L.length - (i + 1))
        case measure => omega
        case rel => exact ⟨i + 1, by go_num, by omega, rfl, by rw [HF.out]; exact HO6.out, HB6.out, rfl⟩
      | false =>
        rw [hp, if_neg (by simp)] at HF
        clear hp
        go_wp2_with fail
        go_roundg (L.length - (i + 1))
        case measure => omega
        case rel => exact ⟨i + 1, by go_num, by omega, rfl, by rw [HF.out]; exact HO5.out, HB5.out, rfl⟩
    · have hii : ¬ (i : Int) < (L.length : Int) := by omega
      have he : i = L.length := by omega
      have HN : Hid ((L.take i).filter p = L.filter p) := by unfold Hid; rw [he, List.take_length]
      clear he
      go_wp2_with fail
      go_ret
      exact ⟨_, rfl, by rw [← HN.out]; exact HO.out, HB.out⟩
theorem clo_w (x : ByteArray) (w : World) : Calls Tryz.prog 135 (#[.string x] ++ #[]) w fun e w' => e = .returned (.bool (!x.toList.isEmpty)) ∧ Below w.heap.size w w' := by
  rw [Array.append_empty]
  go_enter Tryz.func135, Tryz.ntmps135
  go_wp2_with fail
  go_ret
  exact ⟨rfl, Below.refl _ _⟩
theorem cloE_w : ∀ args w, (callFunc 135 args).run Tryz.prog w = .ok (.enter 135 args) w := enters_of Tryz.func135 (by kernel_rfl) rfl
end Go.Proofs.YtghahghbahcpfaaGreatDoor
