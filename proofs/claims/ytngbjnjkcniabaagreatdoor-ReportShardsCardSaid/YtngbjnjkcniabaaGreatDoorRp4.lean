/- The walks over report.words and result. -/
import Derived.Test.YtngbjnjkcniabaaGreatDoorRp3
import Derived.Test.YtngbjnjkcniabaaGreatDoorIdent3
namespace Go.Proofs.YtngbjnjkcniabaaGreatDoor
open Go.RowKit

theorem one_len {l : List UInt8} (h : (pcs 32 l).length ≠ 3) : oneF l = (5, ([], 0, 0)) := by
  unfold oneF
  revert h
  generalize pcs 32 l = ps
  intro h
  rcases ps with _ | ⟨a, _ | ⟨b, _ | ⟨c, _ | ⟨d, r⟩⟩⟩⟩
  · rfl
  · rfl
  · rfl
  · exact absurd rfl h
  · rfl
theorem one_three {l a b c : List UInt8} (h : pcs 32 l = [a, b, c]) : oneF l = if statV a = 0 ∨ partsF b ≠ 0 ∨ digB c = false then (5, ([], 0, 0)) else if 1125899906842624 < numV c then (2, ([], 0, 0)) else (0, (b, statV a, numV c)) := by
  unfold oneF
  rw [h]
theorem split_32 (s : ByteArray) : (Lib.splitB ⟨#[32]⟩ 0 (Lib.countB s ⟨#[32]⟩) s).map (·.data.toList) = pcs 32 s.data.toList := by
  rw [Lib.splitB_data]
  exact splitK_pcs 32 _ _ (Nat.le_refl _)
theorem word_idx (x : ByteArray) : Lib.idxOfS [⟨#[112, 97, 115, 115]⟩, ⟨#[102, 97, 105, 108]⟩, ⟨#[115, 107, 105, 112]⟩] x + 1 = ((statV x.data.toList : Nat) : Int) := by
  have e : ∀ y : ByteArray, (y = x) ↔ y.data.toList = x.data.toList := fun y => ⟨fun h => by rw [h], fun h => by cases x; cases y; simp at h; simp [h]⟩
  unfold Lib.idxOfS statV
  simp only [Lib.idxFromS, e]
  by_cases h1 : x.data.toList = [112, 97, 115, 115]
  · simp [h1]
  · by_cases h2 : x.data.toList = [102, 97, 105, 108]
    · simp [h2]
    · by_cases h3 : x.data.toList = [115, 107, 105, 112]
      · simp [h3]
      · have h1' := fun h => h1 (Eq.symm h)
        have h2' := fun h => h2 (Eq.symm h)
        have h3' := fun h => h3 (Eq.symm h)
        simp only [h1, h2, h3, if_false]
        rw [if_neg h1', if_neg h2', if_neg h3']
        rfl

def RsPost (x : Nat × TR) (w : World) (e : Ending) (w' : World) : Prop :=
  ∃ nm : ByteArray, e = .returned (.tuple #[.agg #[.string nm, .int .i64 ((x.2.2.1 : Nat) : Int), .int .i64 ((x.2.2.2 : Nat) : Int)], .int .i64 ((x.1 : Nat) : Int)]) ∧ nm.data.toList = x.2.1 ∧ Below w.heap.size w w'

set_option maxRecDepth 100000 in
set_option maxHeartbeats 800000 in
theorem words_any (w : World) : Calls Tryz.prog 33 #[] w fun e w' => e = .returned (.agg #[.string ⟨#[]⟩, .string ⟨#[112, 97, 115, 115]⟩, .string ⟨#[102, 97, 105, 108]⟩, .string ⟨#[115, 107, 105, 112]⟩]) ∧ Below w.heap.size w w' := by
  go_enter Tryz.func33, Tryz.ntmps33
  have HB : Hid ((w.alloc (.cells #[.string ⟨#[]⟩, .string ⟨#[]⟩, .string ⟨#[]⟩, .string ⟨#[]⟩] 66 (0, 0))).heap[w.heap.size]? = some (.cells #[.string ⟨#[]⟩, .string ⟨#[]⟩, .string ⟨#[]⟩, .string ⟨#[]⟩] 66 (0, 0))) := hp_new rfl
  have HA := Lib.hid ((Below.refl w.heap.size w).alloc (Nat.le_refl _) (.cells #[.string ⟨#[]⟩, .string ⟨#[]⟩, .string ⟨#[]⟩, .string ⟨#[]⟩] 66 (0, 0)))
  go_wp2_with (refine wpList_store_row rfl 66 _ _ rfl w.heap.size rfl 66 _ HB.out (.agg #[.string ⟨#[]⟩, .string ⟨#[112, 97, 115, 115]⟩, .string ⟨#[102, 97, 105, 108]⟩, .string ⟨#[115, 107, 105, 112]⟩]) rfl (by kernel_rfl) rfl rfl ?_)
  intro w2 hw2
  have HW2 := Lib.hid hw2
  clear hw2
  go_wp2_with fail
  refine bodyPost_ret (v := .agg #[.string ⟨#[]⟩, .string ⟨#[112, 97, 115, 115]⟩, .string ⟨#[102, 97, 105, 108]⟩, .string ⟨#[115, 107, 105, 112]⟩]) ?_ rfl ⟨rfl, HA.out.trans (HW2.out.below (Nat.le_refl _))⟩
  exact results_cell_row (p := 0) (ty := 66) rfl _ _ w.heap.size 66 #[.string ⟨#[]⟩, .string ⟨#[112, 97, 115, 115]⟩, .string ⟨#[102, 97, 105, 108]⟩, .string ⟨#[115, 107, 105, 112]⟩] (0, 0) _ rfl HW2.out.at_ Tryz.underlying66 rfl (by kernel_rfl)
end Go.Proofs.YtngbjnjkcniabaaGreatDoor
