/- What value.literal needs: its texts, plain; FormatBool, Itoa and Join as it calls them. -/
import Derived.Test.YtomecnncighkgaaGreatDoorVq10
import Derived.Test.YtomecnncighkgaaGreatDoorVshm
namespace Go.Proofs.YtomecnncighkgaaGreatDoor
open Go.RowKit Go.Deep

def bx (l : List UInt8) : ByteArray := ⟨l.toArray⟩
theorem bx_list (l : List UInt8) : (bx l).data.toList = l := rfl
theorem bx_of (s : ByteArray) : bx s.data.toList = s := rfl
theorem bx_app (a b : List UInt8) : bx a ++ bx b = bx (a ++ b) := by
  apply bytes_ext
  rw [ByteArray.data_append, Array.toList_append]
  rfl
/-- the texts that a list's literal joins -/
def txF (k : Int) (ks : List ByteArray) (L : List VT) : List (List UInt8) := if k = 5 then List.zipWith itemF ks (L.map litF) else L.map litF
theorem txF_len {k : Int} {ks : List ByteArray} {L : List VT} (h : k = 5 → ks.length = L.length) : (txF k ks L).length = L.length := by
  unfold txF
  split
  · rename_i e
    rw [List.length_zipWith, List.length_map, h e, Nat.min_self]
  · rw [List.length_map]
theorem txF_get {k : Int} {ks : List ByteArray} {L : List VT} (h : k = 5 → ks.length = L.length) {i : Nat} (hi : i < L.length) : (txF k ks L)[i]? = some (if k = 5 then itemF (ks.getD i ByteArray.empty) (litF L[i]) else litF L[i]) := by
  unfold txF
  split
  · rename_i e
    have hk : i < ks.length := by rw [h e]; exact hi
    rw [List.getElem?_zipWith, List.getElem?_map, List.getElem?_eq_getElem hi, List.getElem?_eq_getElem hk, List.getD, List.getElem?_eq_getElem hk]
    rfl
  · rw [List.getElem?_map, List.getElem?_eq_getElem hi]
    rfl
theorem joinT_tail (x : List UInt8) : ∀ l : List (List UInt8), joinT (x :: l) = x ++ Lib.joinTail [44, 32] l
  | [] => by simp [joinT, Lib.joinTail]
  | y :: l => by
    rw [joinT, joinT_tail y l]
    simp [Lib.joinTail]
theorem joinT_join : ∀ l : List (List UInt8), Lib.join l [44, 32] = joinT l
  | [] => rfl
  | x :: l => by rw [Lib.join_cons, joinT_tail]
theorem joinT_mem {x : List UInt8} : ∀ {l : List (List UInt8)}, x ∈ l → x.length ≤ (joinT l).length
  | [], h => by cases h
  | [y], h => by rw [List.mem_singleton.1 h, joinT]; exact Nat.le_refl _
  | y :: z :: l, h => by
    rw [joinT, List.length_append, List.length_cons, List.length_cons]
    rcases List.mem_cons.1 h with rfl | h
    · omega
    · have := joinT_mem h; omega
theorem litF_list {k : Int} {b : Bool} {n : Int} {s : ByteArray} {L : List VT} {ks : List ByteArray} (hk : k = 4 ∨ k = 5) : litF (.mk k b n s L ks) = if k = 5 then 123 :: (joinT (txF k ks L) ++ [125]) else 91 :: (joinT (txF k ks L) ++ [93]) := by
  rw [litF, litL_map]
  rcases hk with rfl | rfl <;> rfl
/-- a list's literal is longer than those of its elements -/
theorem litF_sub {k : Int} {b : Bool} {n : Int} {s : ByteArray} {L : List VT} {ks : List ByteArray} (hk : k = 4 ∨ k = 5) (hl : k = 5 → ks.length = L.length) : (∀ i (hi : i < L.length), (litF L[i]).length ≤ (litF (.mk k b n s L ks)).length) ∧ (joinT (txF k ks L)).length ≤ (litF (.mk k b n s L ks)).length := by
  have hj : (joinT (txF k ks L)).length ≤ (litF (.mk k b n s L ks)).length := by
    rw [litF_list hk]
    split <;> simp <;> omega
  refine ⟨fun i hi => Nat.le_trans ?_ hj, hj⟩
  have hm := joinT_mem (List.mem_of_getElem? (txF_get hl hi))
  refine Nat.le_trans ?_ hm
  split
  · unfold itemF
    rw [List.length_append, List.length_cons, List.length_cons]
    omega
  · exact Nat.le_refl _

theorem ifbool_any (b : Bool) (w : World) : Calls Tryz.prog 127 #[.bool b] w fun e w' => e = .returned (.string (bx (if b then [116, 114, 117, 101] else [102, 97, 108, 115, 101]))) ∧ w' = w := by
  cases b
  · go_enter Tryz.func127, Tryz.ntmps127
    go_wp2_with fail
    go_ret
    exact ⟨rfl, rfl⟩
  · go_enter Tryz.func127, Tryz.ntmps127
    go_wp2_with fail
    go_ret
    exact ⟨rfl, rfl⟩
theorem fbool_any (b : Bool) (w : World) : Calls Tryz.prog 96 #[.bool b] w fun e w' => e = .returned (.string (bx (if b then [116, 114, 117, 101] else [102, 97, 108, 115, 101]))) ∧ ∃ q, w' = w.drewN q := by
  cases b
  · have H := Lib.hid (ifbool_any false)
    go_enter Tryz.func96, Tryz.ntmps96
    go_wp2_with fail
    refine (H.out _).mono ?_
    rintro e w1 ⟨rfl, rfl⟩
    go_wp2_with fail
    go_ret
    exact ⟨rfl, 0, rfl⟩
  · have H := Lib.hid (ifbool_any true)
    go_enter Tryz.func96, Tryz.ntmps96
    go_wp2_with fail
    refine (H.out _).mono ?_
    rintro e w1 ⟨rfl, rfl⟩
    go_wp2_with fail
    go_ret
    exact ⟨rfl, 0, rfl⟩
theorem joinnil_any (a : Option Addr) (c : Nat) (sep : ByteArray) (w : World) : Calls Tryz.prog 48 #[.slice a 0 c, .string sep] w fun e w' => e = .returned (.string ⟨#[]⟩) ∧ ∃ q, w' = w.drewN q := by
  go_enter Tryz.func48, Tryz.ntmps48
  go_wp2_with fail
  go_ret
  exact ⟨rfl, 0, rfl⟩
theorem tabis_below {P : Program} {n : String} {g : Nat} {k : IntKind} {zs : List Int} {w w' : World} (hg : P.globalNamed n = some g) (h : Lib.TabIs P w n k zs) (hb : Below w.heap.size w w') : Lib.TabIs P w' n k zs := by
  unfold Lib.TabIs World.var? at h ⊢
  rw [hg] at h ⊢
  simp only [Option.bind_some] at h ⊢
  have hlt : g < w.heap.size := by
    rcases Nat.lt_or_ge g w.heap.size with h' | h'
    · exact h'
    · rw [Array.getElem?_eq_none h'] at h; cases h
  rw [hb.block g hlt]
  exact h
theorem below_dn (w : World) (q : Nat) : Below w.heap.size w (w.drewN q) := ⟨rfl, rfl, rfl, Nat.le_refl _, fun _ _ => rfl⟩
theorem below_gr (w : World) (k : Nat) (os : Array Obj) : Below w.heap.size w (Go.Sort.grow (w.drewN k) os) :=
  ⟨rfl, rfl, rfl, by show _ ≤ (w.heap ++ os).size; rw [Array.size_append]; omega, fun j hj => Array.getElem?_append_left hj⟩
abbrev Pow (w : World) : Prop := Lib.TabIs Tryz.prog w "internal/strconv.uint64pow10" .u64 Lib.pow10Tab
theorem Pow.below {w w' : World} (h : Pow w) (hb : Below w.heap.size w w') : Pow w' := tabis_below (g := 1) (by kernel_rfl) h hb
theorem itoa_any (n : Int) (h0 : -9223372036854775808 ≤ n) (h1 : n ≤ 9223372036854775807) (w : World) (h : Pow w) : Calls Tryz.prog 97 #[.int .i64 n] w fun e w' => e = .returned (.string (bx (Lib.itoa n))) ∧ Below w.heap.size w w' :=
  (Tryz.strconv_Itoa n h0 h1 w h).mono (by
    rintro e w' ⟨rfl, k, os, rfl⟩
    exact ⟨rfl, below_gr w k os⟩)
/-- strings.Join at the texts gathered -/
theorem joins_any (v : Value) (T : List (List UInt8)) (w : World) (hs : StrsAt w v (T.map bx)) (hl : (joinT T).length ≤ 140737488355328) (hn : T.length ≤ 140737488355328) : Calls Tryz.prog 48 #[v, .string ⟨#[44, 32]⟩] w fun e w' => e = .returned (.string (bx (joinT T))) ∧ Below w.heap.size w w' := by
  have he : (T.map bx).map (·.data.toList) = T := by rw [List.map_map]; exact List.map_id T
  rcases hs with ⟨ao, cap, rfl, h⟩ | ⟨b, off, cap, rfl, hb, hc, hx⟩
  · have : T = [] := List.map_eq_nil_iff.1 h
    subst this
    exact (joinnil_any ao cap _ w).mono (by rintro e w' ⟨rfl, q, rfl⟩; exact ⟨rfl, below_dn w q⟩)
  · have h := Tryz.strings_Join b off cap (T.map bx) ⟨#[44, 32]⟩ w (fun j x hj => by
      have hj2 : j < (T.map bx).length := (List.getElem?_eq_some_iff.1 hj).1
      rw [hx j hj2, List.getD, hj]
      rfl) hb (by rw [List.length_map]; exact hn) hc (by rw [he]; rw [show (⟨#[44, 32]⟩ : ByteArray).data.toList = [44, 32] from rfl, joinT_join]; exact hl)
    rw [he, show (⟨#[44, 32]⟩ : ByteArray).data.toList = [44, 32] from rfl, joinT_join] at h
    exact h
end Go.Proofs.YtomecnncighkgaaGreatDoor
/- The walk over value.literal where the value is no list. -/
namespace Go.Proofs.YtomecnncighkgaaGreatDoor
open Go.RowKit Go.Deep

theorem lit_scalar (k : Int) (h4 : k ≠ 4) (h5 : k ≠ 5) (b : Bool) (n : Int) (s : ByteArray) (L : List VT) (ks : List ByteArray) : litF (.mk k b n s L ks) = if k = 1 then (if b then [116, 114, 117, 101] else [102, 97, 108, 115, 101]) else if k = 2 then Lib.itoa n else if k = 3 then quoteF s.data.toList else [110, 117, 108, 108] := by
  rw [litF, if_neg h4, if_neg h5]
set_option maxRecDepth 100000 in
set_option maxHeartbeats 1600000 in
theorem lit_o (k : Int) (h4 : k ≠ 4) (h5 : k ≠ 5) (b : Bool) (n : Int) (hn0 : -9223372036854775808 ≤ n) (hn1 : n ≤ 9223372036854775807) (s : ByteArray) (hs : s.size ≤ 1000000) (L : List VT) (ks : List ByteArray)
    (lo ko : Option Addr) (ln lc kn kc : Nat) (W : World) (hp : Pow W) : Calls Tryz.prog 75 #[.agg #[.int .i64 k, .bool b, .int .i64 n, .string s, .slice lo ln lc, .slice ko kn kc]] W fun e w' => e = .returned (.string (bx (litF (.mk k b n s L ks)))) ∧ Below W.heap.size W w' := by
  have HR := Lib.hid (lit_scalar k h4 h5 b n s L ks)
  generalize litF (.mk k b n s L ks) = r at *
  obtain ⟨W1, hW1⟩ : ∃ W1, W.alloc (.cells #[.int .i64 k, .bool b, .int .i64 n, .string s, .slice lo ln lc, .slice ko kn kc] 46 (0, 0)) = W1 := ⟨_, rfl⟩
  have hs1 : W1.heap.size = W.heap.size + 1 := by rw [← hW1]; simp
  have hk0 : W1.heap[W.heap.size]? = some (.cells #[.int .i64 k, .bool b, .int .i64 n, .string s, .slice lo ln lc, .slice ko kn kc] 46 (0, 0)) := by rw [← hW1]; exact hp_new rfl
  have HB1 : Hid (Below W.heap.size W W1) := by unfold Hid; rw [← hW1]; exact (Below.refl _ W).alloc (Nat.le_refl _) _
  have d0 : W1.cell? ⟨W.heap.size, 0, none⟩ = some (.int .i64 k) := cell_of_blk hk0 0
  have d1 : W1.cell? ⟨W.heap.size, 1, none⟩ = some (.bool b) := cell_of_blk hk0 1
  have d2 : W1.cell? ⟨W.heap.size, 2, none⟩ = some (.int .i64 n) := cell_of_blk hk0 2
  have d3 : W1.cell? ⟨W.heap.size, 3, none⟩ = some (.string s) := cell_of_blk hk0 3
  have FB := Lib.hid (fbool_any b W1)
  have IT := Lib.hid (itoa_any n hn0 hn1 W1 (hp.below HB1.out))
  have QU := Lib.hid (quote_any s hs W1)
  have HS := Lib.hid hs1
  clear hk0 hn0 hn1 hs hp hs1
  by_cases k1 : k = 1
  · have HE : Hid (r = if b then [116, 114, 117, 101] else [102, 97, 108, 115, 101]) := by have := HR.out; rw [if_pos k1] at this; exact this
    clear HR IT QU h4 h5
    subst k1
    generalize (if b then [116, 114, 117, 101] else [102, 97, 108, 115, 101] : List UInt8) = z at *
    as_aux_lemma =>
    go_enter Tryz.func75, Tryz.ntmps75
    go_wp2_with fail
    refine FB.out.mono ?_
    rintro e w4 ⟨rfl, q, rfl⟩
    go_wp2_with fail
    go_ret
    exact ⟨by rw [HE.out] <;> rfl, HB1.out.trans ((below_dn W1 q).mono HB1.out.size)⟩
  by_cases k2 : k = 2
  · have HE : Hid (r = Lib.itoa n) := by have := HR.out; rw [if_neg k1, if_pos k2] at this; exact this
    clear HR FB QU h4 h5 k1
    subst k2
    as_aux_lemma =>
    go_enter Tryz.func75, Tryz.ntmps75
    go_wp2_with fail
    refine IT.out.mono ?_
    rintro e w4 ⟨rfl, hb⟩
    have HB := Lib.hid hb
    clear hb IT
    go_wp2_with fail
    go_ret
    exact ⟨by rw [HE.out] <;> rfl, HB1.out.trans (HB.out.mono HB1.out.size)⟩
  by_cases k3 : k = 3
  · have HE : Hid (r = quoteF s.data.toList) := by have := HR.out; rw [if_neg k1, if_neg k2, if_pos k3] at this; exact this
    clear HR FB IT h4 h5 k1 k2
    subst k3
    as_aux_lemma =>
    go_enter Tryz.func75, Tryz.ntmps75
    go_wp2_with fail
    refine QU.out.mono ?_
    rintro e w4 ⟨rfl, hb⟩
    have HB := Lib.hid hb
    clear hb QU
    go_wp2_with fail
    go_ret
    exact ⟨by rw [HE.out] <;> rfl, HB1.out.trans (HB.out.mono HB1.out.size)⟩
  · have HE : Hid (r = [110, 117, 108, 108]) := by have := HR.out; rw [if_neg k1, if_neg k2, if_neg k3] at this; exact this
    have n1 : (k == 1) = false := by rw [beq_eq_false_iff_ne]; exact k1
    have n2 : (k == 2) = false := by rw [beq_eq_false_iff_ne]; exact k2
    have n3 : (k == 3) = false := by rw [beq_eq_false_iff_ne]; exact k3
    have n4 : (k == 4) = false := by rw [beq_eq_false_iff_ne]; exact h4
    have n5 : (k == 5) = false := by rw [beq_eq_false_iff_ne]; exact h5
    clear HR FB IT QU h4 h5 k1 k2 k3
    as_aux_lemma =>
    go_enter Tryz.func75, Tryz.ntmps75
    go_wp2_with fail
    go_ret
    exact ⟨by rw [HE.out] <;> rfl, HB1.out⟩
end Go.Proofs.YtomecnncighkgaaGreatDoor
