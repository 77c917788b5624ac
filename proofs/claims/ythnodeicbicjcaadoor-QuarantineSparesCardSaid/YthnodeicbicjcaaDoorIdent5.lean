/- The walk over the reference's IsPath. -/
import Derived.Test.YthnodeicbicjcaaDoorIdent4
namespace Go.Proofs.YthnodeicbicjcaaDoor
open Go.RowKit

set_option maxRecDepth 100000 in
theorem ispath_any (s : ByteArray) (w : World) : Calls Tryd.prog 29 #[.string s] w fun e w' => e = .returned (.bool (decide (partsF s.data.toList = 0))) ∧ Below w.heap.size w w' := by
  go_enter Tryd.func29, Tryd.ntmps29
  go_wp2_with fail
  refine (rparts_any s w).mono ?_
  rintro e w1 ⟨v, ss, rfl, hb, _, _⟩
  have HB := Lib.hid hb
  clear hb
  generalize hn : partsF s.data.toList = n
  have HN := Lib.hid hn
  clear hn
  go_wp2_with fail
  go_ret
  exact ⟨ret_bool (by rw [HN.out, Bool.eq_iff_iff]; simp), HB.out⟩
end Go.Proofs.YthnodeicbicjcaaDoor
