/- The walk over the reference's IsPath. -/
import Derived.Test.YtngbjnjkcniabaaGreatDoorIdent4
namespace Go.Proofs.YtngbjnjkcniabaaGreatDoor
open Go.RowKit

set_option maxRecDepth 100000 in
theorem ispath_any (s : ByteArray) (w : World) : Calls Tryz.prog 37 #[.string s] w fun e w' => e = .returned (.bool (decide (partsF s.data.toList = 0))) ∧ Below w.heap.size w w' := by
  go_enter Tryz.func37, Tryz.ntmps37
  go_wp2_with fail
  refine (rparts_any s w).mono ?_
  rintro e w1 ⟨v, ss, rfl, hb, _, _⟩
  have HB := Lib.hid hb
  clear hb
  generalize hn : partsF s.data.toList = n
  have HN := Lib.hid hn
  clear hn
  go_wp2_with fail
  go_ret
  exact ⟨ret_bool (by rw [HN.out, Bool.eq_iff_iff]; simp), HB.out⟩
end Go.Proofs.YtngbjnjkcniabaaGreatDoor
