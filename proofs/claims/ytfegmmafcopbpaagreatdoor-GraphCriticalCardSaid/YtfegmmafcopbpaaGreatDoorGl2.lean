/- The walk over the law's awake: the examples of the chapter hold. -/
import Derived.Test.YtfegmmafcopbpaaGreatDoorGl1
import Derived.Test.YtfegmmafcopbpaaGreatDoorGw13
import Derived.Test.YtfegmmafcopbpaaGreatDoorGw11
import Derived.Deep.RegionHeld3
import Derived.Great.BuildSlice
namespace Go.Proofs.YtfegmmafcopbpaaGreatDoor
open Go.RowKit

abbrev LawPost (w : World) (e : Ending) (w' : World) : Prop := e = .returned (.bool true) ∧ Below w.heap.size w w'

def aL : Gr := [([97], []), ([98], [[97]]), ([99], [[97]]), ([100], [[98], [99]])]
def aR : Gr := [([100], [[98], [99]]), ([99], [[97]]), ([98], [[97]]), ([97], [])]
def aX : Gr := [([120], [[121]]), ([121], [[122]]), ([122], [[120], [121]])]
set_option maxRecDepth 100000 in
theorem aw1 : validF aR = 0 ∧ orderF aR = aL := by decide +kernel
set_option maxRecDepth 100000 in
theorem aw2 : aboveF aL [100] = [[97], [98], [99]] ∧ belowF aL [98] = [[100]] ∧ readyF aL [[97]] = [[98], [99]] := by decide +kernel
set_option maxRecDepth 100000 in
theorem aw3 : criticalF aL [1, 5, 2, 3] = (9, [[97], [98], [100]]) := by decide +kernel
set_option maxRecDepth 100000 in
theorem aw4 : cycleF aX = [[120], [121], [122]] ∧ validF aX = 14 ∧ validF aL = 0 := by decide +kernel
theorem rng6 : Array.range (3 * 2) = #[0, 1, 2, 3, 4, 5] := by decide
theorem fill3 (a0 b0 a1 b1 a2 b2 z0 z1 : Value) : Instr.fill (fun i => some (i * 2, 2)) ((Array.range (3 * 2)).map fun x => (Value.agg #[z0, z1]).cells[x % (Value.agg #[z0, z1]).cells.size]!) [(0, .agg #[a0, b0]), (1, .agg #[a1, b1]), (2, .agg #[a2, b2])] = some #[a0, b0, a1, b1, a2, b2] := by
  rw [rng6]
  simp [Instr.fill, Value.cells]
abbrev b1 (c : UInt8) : ByteArray := ⟨#[c]⟩

set_option maxRecDepth 100000 in
set_option maxHeartbeats 6400000 in
theorem awake_any (m : Int) (w : World) (hm : w.cell? ⟨0, 0, none⟩ = some (.int .i64 m)) (hml : 0 < w.heap.size) : Calls Tryz.prog 12 #[] w (LawPost w) := by
  have MX : Hid (∀ W, Below w.heap.size w W → W.cell? ⟨0, 0, none⟩ = some (.int .i64 m) ∧ 0 < W.heap.size) := fun W hW => ⟨(hW.cell (p := ⟨0, 0, none⟩) hml).trans hm, Nat.lt_of_lt_of_le hml hW.size⟩
  have B0 := Lib.hid (Below.refl w.heap.size w)
  clear hm hml
  go_enter Tryz.func12, Tryz.ntmps12
  go_wp2_with fail
  refine (node_any _ _ _ _ _).mono ?_
  rintro e w1 ⟨rfl, hb⟩
  have B1 := Lib.hid (B0.out.trans (hb.mono B0.out.size))
  clear hb
  go_wp2_with fail
  refine (node_any _ _ _ _ _).mono ?_
  rintro e w2 ⟨rfl, hb⟩
  have s1 := B1.out.size
  have B2 := Lib.hid ((B1.out.alloc s1 (.cells #[.string (b1 97)] 9)).trans (hb.mono (by simp; omega)))
  have S1 := Lib.hid ((strs_newG w1 [b1 97]).below hb)
  clear hb
  go_wp2_with fail
  refine (node_any _ _ _ _ _).mono ?_
  rintro e w3 ⟨rfl, hb⟩
  have s2 := B2.out.size
  have B3 := Lib.hid ((B2.out.alloc s2 (.cells #[.string (b1 97)] 9)).trans (hb.mono (by simp; omega)))
  have S2 := Lib.hid ((strs_newG w2 [b1 97]).below hb)
  have H23 : Hid (Below w2.heap.size w2 w3) := ((Below.refl _ w2).alloc (Nat.le_refl _) (.cells #[.string (b1 97)] 9)).trans (hb.mono (by simp))
  clear hb
  go_wp2_with fail
  refine (node_any _ _ _ _ _).mono ?_
  rintro e w4 ⟨rfl, hb⟩
  have s3 := B3.out.size
  have B4 := Lib.hid ((B3.out.alloc s3 (.cells #[.string (b1 98), .string (b1 99)] 9)).trans (hb.mono (by simp; omega)))
  have S3 := Lib.hid ((strs_newG w3 [b1 98, b1 99]).below hb)
  have H34 : Hid (Below w3.heap.size w3 w4) := ((Below.refl _ w3).alloc (Nat.le_refl _) (.cells #[.string (b1 98), .string (b1 99)] 9)).trans (hb.mono (by simp))
  clear hb
  go_upto_region 2 with fail
  have s4 := B4.out.size
  have hst : ∀ x ∈ ([⟨b1 97, .slice none 0 0, []⟩, ⟨b1 98, .slice (some ⟨w1.heap.size, 0, none⟩) 1 1, [b1 97]⟩, ⟨b1 99, .slice (some ⟨w2.heap.size, 0, none⟩) 1 1, [b1 97]⟩, ⟨b1 100, .slice (some ⟨w3.heap.size, 0, none⟩) 2 2, [b1 98, b1 99]⟩] : List Nd), StrsAt w4 x.nv x.needs := by
    intro x hx
    simp only [List.mem_cons, List.not_mem_nil, or_false] at hx
    rcases hx with rfl | rfl | rfl | rfl
    · exact .inl ⟨_, _, rfl, rfl⟩
    · exact S1.out.below (H23.out.trans (H34.out.mono H23.out.size))
    · exact S2.out.below H34.out
    · exact S3.out
  have NL := nds_new w4 _ hst
  have hcell : ∀ j, (w4.alloc (.cells #[.string (b1 97), .slice none 0 0, .string (b1 98), .slice (some ⟨w1.heap.size, 0, none⟩) 1 1, .string (b1 99), .slice (some ⟨w2.heap.size, 0, none⟩) 1 1, .string (b1 100), .slice (some ⟨w3.heap.size, 0, none⟩) 2 2] 48)).cell? ⟨w4.heap.size, j, none⟩ = (#[.string (b1 97), .slice none 0 0, .string (b1 98), .slice (some ⟨w1.heap.size, 0, none⟩) 1 1, .string (b1 99), .slice (some ⟨w2.heap.size, 0, none⟩) 1 1, .string (b1 100), .slice (some ⟨w3.heap.size, 0, none⟩) 2 2] : Array Value)[j]? := fun j => by rw [cell_of_blk (hp_new rfl)]
  have c0 := hcell 0
  have c1 := hcell 1
  have c2 := hcell 2
  have c3 := hcell 3
  have c4 := hcell 4
  have c5 := hcell 5
  have c6 := hcell 6
  have c7 := hcell 7
  simp only [List.getElem?_toArray, List.getElem?_cons_zero, List.getElem?_cons_succ] at c0 c1 c2 c3 c4 c5 c6 c7
  have B5 := Lib.hid (B4.out.alloc s4 (.cells #[.string (b1 97), .slice none 0 0, .string (b1 98), .slice (some ⟨w1.heap.size, 0, none⟩) 1 1, .string (b1 99), .slice (some ⟨w2.heap.size, 0, none⟩) 1 1, .string (b1 100), .slice (some ⟨w3.heap.size, 0, none⟩) 2 2] 48))
  have NL5 : Hid (NdAt (w4.alloc (.cells #[.string (b1 97), .slice none 0 0, .string (b1 98), .slice (some ⟨w1.heap.size, 0, none⟩) 1 1, .string (b1 99), .slice (some ⟨w2.heap.size, 0, none⟩) 1 1, .string (b1 100), .slice (some ⟨w3.heap.size, 0, none⟩) 2 2] 48)) (.slice (some ⟨w4.heap.size, 0, none⟩) 4 4) [⟨b1 97, .slice none 0 0, []⟩, ⟨b1 98, .slice (some ⟨w1.heap.size, 0, none⟩) 1 1, [b1 97]⟩, ⟨b1 99, .slice (some ⟨w2.heap.size, 0, none⟩) 1 1, [b1 97]⟩, ⟨b1 100, .slice (some ⟨w3.heap.size, 0, none⟩) 2 2, [b1 98, b1 99]⟩]) := NL
  clear hst NL hcell S1 S2 S3 H23 H34 B1 B2 B3 B4 B0
  generalize (w4.alloc (.cells #[.string (b1 97), .slice none 0 0, .string (b1 98), .slice (some ⟨w1.heap.size, 0, none⟩) 1 1, .string (b1 99), .slice (some ⟨w2.heap.size, 0, none⟩) 1 1, .string (b1 100), .slice (some ⟨w3.heap.size, 0, none⟩) 2 2] 48)) = w5 at *
  have hS5 := NL5.out.st
  have hst2 : ∀ x ∈ ([⟨b1 100, .slice (some ⟨w3.heap.size, 0, none⟩) 2 2, [b1 98, b1 99]⟩, ⟨b1 99, .slice (some ⟨w2.heap.size, 0, none⟩) 1 1, [b1 97]⟩, ⟨b1 98, .slice (some ⟨w1.heap.size, 0, none⟩) 1 1, [b1 97]⟩, ⟨b1 97, .slice none 0 0, []⟩] : List Nd), StrsAt w5 x.nv x.needs := by
    intro x hx
    refine hS5 x ?_
    simp only [List.mem_cons, List.not_mem_nil, or_false] at hx ⊢
    rcases hx with h | h | h | h
    · exact .inr (.inr (.inr h))
    · exact .inr (.inr (.inl h))
    · exact .inr (.inl h)
    · exact .inl h
  have NR := nds_new w5 _ hst2
  have s5 := B5.out.size
  have B6 := Lib.hid ((B5.out.alloc s5 (.cells #[.string (b1 100), .slice (some ⟨w3.heap.size, 0, none⟩) 2 2, .string (b1 99), .slice (some ⟨w2.heap.size, 0, none⟩) 1 1, .string (b1 98), .slice (some ⟨w1.heap.size, 0, none⟩) 1 1, .string (b1 97), .slice none 0 0] 48)).drew)
  have OA : Hid (Calls Tryz.prog 13 #[.slice (some ⟨w5.heap.size, 0, none⟩) 4 4] (w5.alloc (.cells #[.string (b1 100), .slice (some ⟨w3.heap.size, 0, none⟩) 2 2, .string (b1 99), .slice (some ⟨w2.heap.size, 0, none⟩) 1 1, .string (b1 98), .slice (some ⟨w1.heap.size, 0, none⟩) 1 1, .string (b1 97), .slice none 0 0] 48)).drew (OrderPost aR (w5.alloc (.cells #[.string (b1 100), .slice (some ⟨w3.heap.size, 0, none⟩) 2 2, .string (b1 99), .slice (some ⟨w2.heap.size, 0, none⟩) 1 1, .string (b1 98), .slice (some ⟨w1.heap.size, 0, none⟩) 1 1, .string (b1 97), .slice none 0 0] 48)).drew)) := (gorder_any _ _ m (by simp) ((w5.alloc (.cells #[.string (b1 100), .slice (some ⟨w3.heap.size, 0, none⟩) 2 2, .string (b1 99), .slice (some ⟨w2.heap.size, 0, none⟩) 1 1, .string (b1 98), .slice (some ⟨w1.heap.size, 0, none⟩) 1 1, .string (b1 97), .slice none 0 0] 48)).drew) (NdAt.below NR ⟨rfl, rfl, rfl, Nat.le_refl _, fun _ _ => rfl⟩) (MX.out _ B6.out).1 (MX.out _ B6.out).2)
  have OA2 : Hid (Calls Tryz.prog 13 #[.slice (some ⟨w5.heap.size, 0, none⟩) 4 4] (w5.alloc (.cells #[.string (b1 100), .slice (some ⟨w3.heap.size, 0, none⟩) 2 2, .string (b1 99), .slice (some ⟨w2.heap.size, 0, none⟩) 1 1, .string (b1 98), .slice (some ⟨w1.heap.size, 0, none⟩) 1 1, .string (b1 97), .slice none 0 0] 48)).drew fun e w' => ∃ ao cap os, e = .returned (.tuple #[.slice ao 4 cap, .int .i64 0]) ∧ NdAt w' (.slice ao 4 cap) os ∧ grO os = aL ∧ Below (w5.alloc (.cells #[.string (b1 100), .slice (some ⟨w3.heap.size, 0, none⟩) 2 2, .string (b1 99), .slice (some ⟨w2.heap.size, 0, none⟩) 1 1, .string (b1 98), .slice (some ⟨w1.heap.size, 0, none⟩) 1 1, .string (b1 97), .slice none 0 0] 48)).drew.heap.size (w5.alloc (.cells #[.string (b1 100), .slice (some ⟨w3.heap.size, 0, none⟩) 2 2, .string (b1 99), .slice (some ⟨w2.heap.size, 0, none⟩) 1 1, .string (b1 98), .slice (some ⟨w1.heap.size, 0, none⟩) 1 1, .string (b1 97), .slice none 0 0] 48)).drew w') := OA.out.mono (by
    rintro e w' ⟨r, os, rfl, hn, h0, _, hb⟩
    have hg := (h0 aw1.1).trans aw1.2
    have hl : os.length = 4 := by rw [← grO_len, hg]; rfl
    obtain ⟨ao, cap, rfl⟩ := hn.sl.form
    rw [hl] at hn ⊢
    rw [aw1.1]
    exact ⟨ao, cap, os, rfl, hn, hg, hb⟩)
  obtain ⟨Ls, hLs, hGL, hLL⟩ : ∃ Ls : List Nd, (∀ W, Below w5.heap.size w5 W → NdAt W (.slice (some ⟨w4.heap.size, 0, none⟩) 4 4) Ls) ∧ grO Ls = aL ∧ Ls.length = 4 := ⟨_, fun W hW => NL5.out.below hW, rfl, rfl⟩
  have NLS := Lib.hid hLs
  have HGL := Lib.hid hGL
  have HLL := Lib.hid hLL
  clear hS5 hst2 NR OA NL5 hLs hGL hLL
  have h45 : w4.heap.size < w5.heap.size := World.block_lt_of_cell? _ _ c0
  have HBX : Hid (∀ W, Below (w5.alloc (.cells #[.string (b1 100), .slice (some ⟨w3.heap.size, 0, none⟩) 2 2, .string (b1 99), .slice (some ⟨w2.heap.size, 0, none⟩) 1 1, .string (b1 98), .slice (some ⟨w1.heap.size, 0, none⟩) 1 1, .string (b1 97), .slice none 0 0] 48)).drew.heap.size (w5.alloc (.cells #[.string (b1 100), .slice (some ⟨w3.heap.size, 0, none⟩) 2 2, .string (b1 99), .slice (some ⟨w2.heap.size, 0, none⟩) 1 1, .string (b1 98), .slice (some ⟨w1.heap.size, 0, none⟩) 1 1, .string (b1 97), .slice none 0 0] 48)).drew W → Below w5.heap.size w5 W) := fun W hW => ((Below.refl _ w5).alloc (Nat.le_refl _) (.cells #[.string (b1 100), .slice (some ⟨w3.heap.size, 0, none⟩) 2 2, .string (b1 99), .slice (some ⟨w2.heap.size, 0, none⟩) 1 1, .string (b1 98), .slice (some ⟨w1.heap.size, 0, none⟩) 1 1, .string (b1 97), .slice none 0 0] 48)).drew.trans (hW.mono (by show _ ≤ (w5.alloc (.cells #[.string (b1 100), .slice (some ⟨w3.heap.size, 0, none⟩) 2 2, .string (b1 99), .slice (some ⟨w2.heap.size, 0, none⟩) 1 1, .string (b1 98), .slice (some ⟨w1.heap.size, 0, none⟩) 1 1, .string (b1 97), .slice none 0 0] 48)).heap.size; simp))
  have HCS : Hid (∀ w', Below w5.heap.size w5 w' → w'.cell? ⟨w4.heap.size, 0, none⟩ = some (.string (b1 97)) ∧ w'.cell? ⟨w4.heap.size, 1, none⟩ = some (.slice none 0 0) ∧ w'.cell? ⟨w4.heap.size, 2, none⟩ = some (.string (b1 98)) ∧ w'.cell? ⟨w4.heap.size, 3, none⟩ = some (.slice (some ⟨w1.heap.size, 0, none⟩) 1 1) ∧ w'.cell? ⟨w4.heap.size, 4, none⟩ = some (.string (b1 99)) ∧ w'.cell? ⟨w4.heap.size, 5, none⟩ = some (.slice (some ⟨w2.heap.size, 0, none⟩) 1 1) ∧ w'.cell? ⟨w4.heap.size, 6, none⟩ = some (.string (b1 100)) ∧ w'.cell? ⟨w4.heap.size, 7, none⟩ = some (.slice (some ⟨w3.heap.size, 0, none⟩) 2 2)) := fun W hW => ⟨(hW.cell (p := ⟨w4.heap.size, 0, none⟩) h45).trans c0, (hW.cell (p := ⟨w4.heap.size, 1, none⟩) h45).trans c1, (hW.cell (p := ⟨w4.heap.size, 2, none⟩) h45).trans c2, (hW.cell (p := ⟨w4.heap.size, 3, none⟩) h45).trans c3, (hW.cell (p := ⟨w4.heap.size, 4, none⟩) h45).trans c4, (hW.cell (p := ⟨w4.heap.size, 5, none⟩) h45).trans c5, (hW.cell (p := ⟨w4.heap.size, 6, none⟩) h45).trans c6, (hW.cell (p := ⟨w4.heap.size, 7, none⟩) h45).trans c7⟩
  go_region_held3 (fun w' => w'.cell? ⟨w4.heap.size, 0, none⟩ = some (.string (b1 97)) ∧ w'.cell? ⟨w4.heap.size, 1, none⟩ = some (.slice none 0 0) ∧ w'.cell? ⟨w4.heap.size, 2, none⟩ = some (.string (b1 98)) ∧ w'.cell? ⟨w4.heap.size, 3, none⟩ = some (.slice (some ⟨w1.heap.size, 0, none⟩) 1 1) ∧ w'.cell? ⟨w4.heap.size, 4, none⟩ = some (.string (b1 99)) ∧ w'.cell? ⟨w4.heap.size, 5, none⟩ = some (.slice (some ⟨w2.heap.size, 0, none⟩) 1 1) ∧ w'.cell? ⟨w4.heap.size, 6, none⟩ = some (.string (b1 100)) ∧ w'.cell? ⟨w4.heap.size, 7, none⟩ = some (.slice (some ⟨w3.heap.size, 0, none⟩) 2 2)) (first | exact ⟨c0, c1, c2, c3, c4, c5, c6, c7⟩ | exact hcs | go_keep)
    (first
      | (go_at_call 13; refine OA2.out.mono ?_; rintro e w6 ⟨oao, ocap, os, rfl, hos, hog, hob⟩; have hbx := HBX.out _ hob; have hcs := HCS.out _ hbx))
  have HNN : Hid (∀ ns : List Nd, grO ns = aL → ∀ x ∈ ns, x.needs.length ≤ 1000000) := fun ns hg x hx => by
    have h1 : (x.id.data.toList, x.needs.map (·.data.toList)) ∈ grO ns := List.mem_map.2 ⟨x, hx, rfl⟩
    rw [hg] at h1
    have h2 : ∀ y ∈ aL, y.2.length ≤ 1000000 := by decide
    have h3 := h2 _ h1
    simpa using h3
  have SN := samenodes_any _ _ os Ls (by rw [← grO_len, hog]; decide) (HNN.out os hog) w6 hos (NLS.out w6 hbx)
  rw [hog, HGL.out, decide_eq_true rfl] at SN
  have SN2 := Lib.hid SN
  have HX6 := Lib.hid hbx
  have HBW : Hid (∀ W, Below w5.heap.size w5 W → Below w.heap.size w W) := fun W hW => B5.out.trans (hW.mono B5.out.size)
  have hlen4 : 40 * Ls.length ≤ 281474976710656 := by rw [HLL.out]; decide
  have AB : ∀ W, Below w5.heap.size w5 W → Hid (Calls Tryz.prog 21 #[.slice (some ⟨w4.heap.size, 0, none⟩) 4 4, .string (b1 100)] W fun e w' => ∃ r ss, e = .returned r ∧ StrsAt w' r ss ∧ dts ss = dts [b1 97, b1 98, b1 99] ∧ Below W.heap.size W w') := fun W hW => (above_any _ Ls (b1 100) m hlen4 W (NLS.out W hW) (MX.out W (HBW.out W hW)).1 (MX.out W (HBW.out W hW)).2).mono fun e w' h => by
    obtain ⟨r, ss, rfl, h1, h2, h3⟩ := h
    exact ⟨r, ss, rfl, h1, h2.trans (by rw [HGL.out]; exact aw2.1), h3⟩
  have BE : ∀ W, Below w5.heap.size w5 W → Hid (Calls Tryz.prog 23 #[.slice (some ⟨w4.heap.size, 0, none⟩) 4 4, .string (b1 98)] W fun e w' => ∃ r ss, e = .returned r ∧ StrsAt w' r ss ∧ dts ss = dts [b1 100] ∧ Below W.heap.size W w') := fun W hW => (below_any _ Ls (b1 98) m hlen4 W (NLS.out W hW) (MX.out W (HBW.out W hW)).1 (MX.out W (HBW.out W hW)).2).mono fun e w' h => by
    obtain ⟨r, ss, rfl, h1, h2, h3⟩ := h
    exact ⟨r, ss, rfl, h1, h2.trans (by rw [HGL.out]; exact aw2.2.1), h3⟩
  have RD : ∀ W, Below w5.heap.size w5 W → Hid (Calls Tryz.prog 25 #[.slice (some ⟨w4.heap.size, 0, none⟩) 4 4, .slice (some ⟨W.heap.size, 0, none⟩) 1 1] (W.alloc (.cells #[.string (b1 97)] 9)) fun e w' => ∃ r ss, e = .returned r ∧ StrsAt w' r ss ∧ dts ss = dts [b1 98, b1 99] ∧ Below W.heap.size W w') := fun W hW => by
    have hb := (Below.refl W.heap.size W).alloc (Nat.le_refl _) (.cells #[.string (b1 97)] 9)
    have hW2 := hW.trans (hb.mono hW.size)
    refine (ready_any _ _ Ls [b1 97] m hlen4 (by decide) _ (NLS.out _ hW2) (strs_newG W [b1 97]) (MX.out _ (HBW.out _ hW2)).1 (MX.out _ (HBW.out _ hW2)).2).mono fun e w' h => ?_
    obtain ⟨r, ss, rfl, h1, h2, h3⟩ := h
    exact ⟨r, ss, rfl, h1, h2.trans (by rw [HGL.out]; exact aw2.2.2), hb.trans (h3.mono hb.size)⟩
  have CR : ∀ W, Below w5.heap.size w5 W → Hid (Calls Tryz.prog 27 #[.slice (some ⟨w4.heap.size, 0, none⟩) 4 4, .slice (some ⟨W.heap.size, 0, none⟩) 4 4] (W.alloc (.cells #[.int .i64 1, .int .i64 5, .int .i64 2, .int .i64 3] 3)) fun e w' => ∃ r ss, e = .returned (.tuple #[.int .i64 9, r]) ∧ StrsAt w' r ss ∧ dts ss = dts [b1 97, b1 98, b1 100] ∧ Below W.heap.size W w') := fun W hW => by
    have hb := (Below.refl W.heap.size W).alloc (Nat.le_refl _) (.cells #[.int .i64 1, .int .i64 5, .int .i64 2, .int .i64 3] 3)
    have hW2 := hW.trans (hb.mono hW.size)
    refine (critical_any _ _ Ls [1, 5, 2, 3] m hlen4 (fun _ => by decide) _ (NLS.out _ hW2) (zs_new W [1, 5, 2, 3]) (MX.out _ (HBW.out _ hW2)).1 (MX.out _ (HBW.out _ hW2)).2).mono fun e w' h => ?_
    obtain ⟨r, ss, rfl, h1, h2, h3⟩ := h
    exact ⟨r, ss, by rw [HGL.out, aw3]; rfl, h1, h2.trans (by rw [HGL.out, aw3]; rfl), hb.trans (h3.mono hb.size)⟩
  have VL : ∀ W, Below w5.heap.size w5 W → Hid (Calls Tryz.prog 16 #[.slice (some ⟨w4.heap.size, 0, none⟩) 4 4] W fun e w' => e = .returned (.int .i64 0) ∧ Below W.heap.size W w') := fun W hW => (valid_any _ Ls m hlen4 W (NLS.out W hW) (MX.out W (HBW.out W hW)).1 (MX.out W (HBW.out W hW)).2).mono fun e w' h => ⟨by rw [h.1, HGL.out, aw4.2.2]; rfl, h.2⟩
  clear SN hos hog hob hbx hcs OA2 HBX HCS B6 c0 c1 c2 c3 c4 c5 c6 c7 hlen4 NLS HGL HLL HNN
  generalize w4.heap.size = lb at *
  as_aux_lemma =>
  go_wp2_with fail
  refine SN2.out.mono ?_
  rintro e w7 ⟨rfl, hb⟩
  have X7 := Lib.hid (HX6.out.trans (hb.mono HX6.out.size))
  clear hb
  go_wp2_with fail
  refine (AB w7 X7.out).out.mono ?_
  rintro e w8 ⟨r8, ss8, rfl, hs8, hd8, hb⟩
  have X8 := Lib.hid (X7.out.trans (hb.mono X7.out.size))
  have SM8 := Lib.hid (same_new r8 ss8 [b1 97, b1 98, b1 99] (by decide) hd8 w8 hs8)
  clear hb hs8 hd8
  go_wp2_with fail
  refine SM8.out.mono ?_
  rintro e w9 ⟨rfl, hb⟩
  have X9 := Lib.hid (X8.out.trans (hb.mono X8.out.size))
  clear hb SM8
  as_aux_lemma =>
  go_wp2_with fail
  refine (BE w9 X9.out).out.mono ?_
  rintro e w10 ⟨r10, ss10, rfl, hs10, hd10, hb⟩
  have X10 := Lib.hid (X9.out.trans (hb.mono X9.out.size))
  have SM10 := Lib.hid (same_new r10 ss10 [b1 100] (by decide) hd10 w10 hs10)
  clear hb hs10 hd10
  go_wp2_with fail
  refine SM10.out.mono ?_
  rintro e w11 ⟨rfl, hb⟩
  have X11 := Lib.hid (X10.out.trans (hb.mono X10.out.size))
  clear hb SM10
  go_wp2_with fail
  refine (RD w11 X11.out).out.mono ?_
  rintro e w12 ⟨r12, ss12, rfl, hs12, hd12, hb⟩
  have X12 := Lib.hid (X11.out.trans (hb.mono X11.out.size))
  have SM12 := Lib.hid (same_new r12 ss12 [b1 98, b1 99] (by decide) hd12 w12 hs12)
  clear hb hs12 hd12
  go_wp2_with fail
  refine SM12.out.mono ?_
  rintro e w13 ⟨rfl, hb⟩
  have X13 := Lib.hid (X12.out.trans (hb.mono X12.out.size))
  clear hb SM12
  as_aux_lemma =>
  go_wp2_with fail
  refine (CR w13 X13.out).out.mono ?_
  rintro e w14 ⟨r14, ss14, rfl, hs14, hd14, hb⟩
  have X14 := Lib.hid (X13.out.trans (hb.mono X13.out.size))
  have HS14 := Lib.hid hs14
  have HD14 := Lib.hid hd14
  clear hb hs14 hd14 HX6 X7 X8 X9 X10 X11 X12 X13 AB BE RD CR SN2
  go_upto_region 6 with fail
  go_cut [6] from 68 to 74 (fun s6 wx => Below w14.heap.size w14 wx ∧ ∃ (xb : Nat) (Lx : List Nd), s6 = .slice (some ⟨xb, 0, none⟩) 3 3 ∧ NdAt wx (.slice (some ⟨xb, 0, none⟩) 3 3) Lx ∧ grO Lx = aX ∧ Lx.length = 3)
  case first =>
    as_aux_lemma =>
    go_wp2_with fail
    refine (node_any _ _ _ _ _).mono ?_
    rintro e w15 ⟨rfl, hb⟩
    have Y15 := Lib.hid (((Below.refl _ w14).alloc (Nat.le_refl _) (.cells #[.string (b1 121)] 9)).trans (hb.mono (by simp)))
    have S15 := Lib.hid ((strs_newG w14 [b1 121]).below hb)
    clear hb
    go_wp2_with fail
    refine (node_any _ _ _ _ _).mono ?_
    rintro e w16 ⟨rfl, hb⟩
    have Y16 := Lib.hid (((Below.refl _ w15).alloc (Nat.le_refl _) (.cells #[.string (b1 122)] 9)).trans (hb.mono (by simp)))
    have S16 := Lib.hid ((strs_newG w15 [b1 122]).below hb)
    clear hb
    go_wp2_with fail
    refine (node_any _ _ _ _ _).mono ?_
    rintro e w17 ⟨rfl, hb⟩
    have Y17 := Lib.hid (((Below.refl _ w16).alloc (Nat.le_refl _) (.cells #[.string (b1 120), .string (b1 121)] 9)).trans (hb.mono (by simp)))
    have S17 := Lib.hid ((strs_newG w16 [b1 120, b1 121]).below hb)
    clear hb
    have hst3 : ∀ x ∈ ([⟨b1 120, .slice (some ⟨w14.heap.size, 0, none⟩) 1 1, [b1 121]⟩, ⟨b1 121, .slice (some ⟨w15.heap.size, 0, none⟩) 1 1, [b1 122]⟩, ⟨b1 122, .slice (some ⟨w16.heap.size, 0, none⟩) 2 2, [b1 120, b1 121]⟩] : List Nd), StrsAt w17 x.nv x.needs := by
      intro x hx
      simp only [List.mem_cons, List.not_mem_nil, or_false] at hx
      rcases hx with rfl | rfl | rfl
      · exact S15.out.below (Y16.out.trans (Y17.out.mono Y16.out.size))
      · exact S16.out.below Y17.out
      · exact S17.out
    have NX := nds_new w17 _ hst3
    have Y14 : Hid (Below w14.heap.size w14 w17) := (Y15.out.trans (Y16.out.mono Y15.out.size)).trans (Y17.out.mono (Nat.le_trans Y15.out.size Y16.out.size))
    have HREL : Hid (Below w14.heap.size w14 (w17.alloc (.cells #[.string (b1 120), .slice (some ⟨w14.heap.size, 0, none⟩) 1 1, .string (b1 121), .slice (some ⟨w15.heap.size, 0, none⟩) 1 1, .string (b1 122), .slice (some ⟨w16.heap.size, 0, none⟩) 2 2] 48)) ∧ ∃ (xb : Nat) (Lx : List Nd), Value.slice (some ⟨w17.heap.size, 0, none⟩) 3 3 = .slice (some ⟨xb, 0, none⟩) 3 3 ∧ NdAt (w17.alloc (.cells #[.string (b1 120), .slice (some ⟨w14.heap.size, 0, none⟩) 1 1, .string (b1 121), .slice (some ⟨w15.heap.size, 0, none⟩) 1 1, .string (b1 122), .slice (some ⟨w16.heap.size, 0, none⟩) 2 2] 48)) (.slice (some ⟨xb, 0, none⟩) 3 3) Lx ∧ grO Lx = aX ∧ Lx.length = 3) := ⟨Y14.out.alloc Y14.out.size _, w17.heap.size, _, rfl, NX, rfl, rfl⟩
    clear hst3 NX Y14 Y15 Y16 Y17 S15 S16 S17
    obtain ⟨i48, hi48⟩ := Tryz.info48'
    dsimp only
    rename_i K6 a6
    refine a6 _ _ ?_
    clear a6
    refine wpList_buildSlice rfl 22 48 3 _ rfl #[.string (b1 120), .slice (some ⟨w14.heap.size, 0, none⟩) 1 1, .string (b1 121), .slice (some ⟨w15.heap.size, 0, none⟩) 1 1, .string (b1 122), .slice (some ⟨w16.heap.size, 0, none⟩) 2 2] i48 (.agg #[.string ByteArray.empty, .slice none 0 0]) Tryz.underlying22 hi48.1 hi48.2.1 (by rw [hi48.2.2.1]; decide) (by rw [hi48.2.2.1]; decide) (by rw [hi48.2.2.1]; simp only [List.map_toArray, List.map_cons, List.map_nil]; exact fill3 _ _ _ _ _ _ _ _) ?_
    clear hi48
    generalize (w17.alloc (.cells #[.string (b1 120), .slice (some ⟨w14.heap.size, 0, none⟩) 1 1, .string (b1 121), .slice (some ⟨w15.heap.size, 0, none⟩) 1 1, .string (b1 122), .slice (some ⟨w16.heap.size, 0, none⟩) 2 2] 48)) = w18 at *
    go_wp2_with fail
    go_meet
    exact HREL.out
  case rest =>
    obtain ⟨hb18, xb, Lx, rfl, hLx, hGX, hLXL⟩ := hcut
    generalize wc = w18 at *
    have X18 := Lib.hid (X14.out.trans (hb18.mono X14.out.size))
    have NLX := Lib.hid hLx
    have HGX := Lib.hid hGX
    have HLX := Lib.hid hLXL
    have SM18 := Lib.hid (same_new r14 ss14 [b1 97, b1 98, b1 100] (by decide) HD14.out w18 (HS14.out.below hb18))
    clear hb18 hLx hGX hLXL HD14 HS14 X14
    as_aux_lemma =>
    go_wp2_with fail
    refine SM18.out.mono ?_
    rintro e w19 ⟨rfl, hb⟩
    have X19 := Lib.hid (X18.out.trans (hb.mono X18.out.size))
    have NX19 := Lib.hid (NLX.out.below hb)
    have hlenx : 40 * Lx.length ≤ 281474976710656 := by rw [HLX.out]; decide
    have CY : Hid (Calls Tryz.prog 19 #[.slice (some ⟨xb, 0, none⟩) 3 3] w19 fun e w' => ∃ r ss, e = .returned r ∧ StrsAt w' r ss ∧ dts ss = dts [b1 120, b1 121, b1 122] ∧ Below w19.heap.size w19 w') := (cycle_any _ Lx m hlenx w19 NX19.out (MX.out _ (HBW.out _ X19.out)).1 (MX.out _ (HBW.out _ X19.out)).2).mono fun e w' h => by
      obtain ⟨r, ss, rfl, h1, h2, h3⟩ := h
      exact ⟨r, ss, rfl, h1, h2.trans (by rw [HGX.out]; exact aw4.1), h3⟩
    have VX : ∀ W, Below w19.heap.size w19 W → Hid (Calls Tryz.prog 16 #[.slice (some ⟨xb, 0, none⟩) 3 3] W fun e w' => e = .returned (.int .i64 14) ∧ Below W.heap.size W w') := fun W hW => (valid_any _ Lx m hlenx W (NX19.out.below hW) (MX.out W (HBW.out W (X19.out.trans (hW.mono X19.out.size)))).1 (MX.out W (HBW.out W (X19.out.trans (hW.mono X19.out.size)))).2).mono fun e w' h => ⟨by rw [h.1, HGX.out, aw4.2.1]; rfl, h.2⟩
    clear hb NLX HGX HLX hlenx SM18
    as_aux_lemma =>
    go_wp2_with fail
    refine CY.out.mono ?_
    rintro e w20 ⟨r20, ss20, rfl, hs20, hd20, hb⟩
    have Z20 := Lib.hid hb
    have SM20 := Lib.hid (same_new r20 ss20 [b1 120, b1 121, b1 122] (by decide) hd20 w20 hs20)
    clear hb hs20 hd20 CY
    go_wp2_with fail
    refine SM20.out.mono ?_
    rintro e w21 ⟨rfl, hb⟩
    have Z21 := Lib.hid (Z20.out.trans (hb.mono Z20.out.size))
    clear hb SM20
    as_aux_lemma =>
    go_wp2_with fail
    refine (VX w21 Z21.out).out.mono ?_
    rintro e w22 ⟨rfl, hb⟩
    have X22 := Lib.hid (X19.out.trans ((Z21.out.trans (hb.mono Z21.out.size)).mono X19.out.size))
    clear hb VX Z20 Z21
    go_wp2_with fail
    refine (VL w22 X22.out).out.mono ?_
    rintro e w23 ⟨rfl, hb⟩
    have X23 := Lib.hid (X22.out.trans (hb.mono X22.out.size))
    clear hb VL
    go_wp2_with fail
    go_ret
    exact ⟨rfl, HBW.out _ X23.out⟩
end Go.Proofs.YtfegmmafcopbpaaGreatDoor
