import Derived.Test.YtcbhdecinfbakaaDoorProg
import Derived.Lib.Walk
import Derived.Sort.Row
import Derived.Lib.Strings
import Derived.Deep.DeepFit
set_option linter.unusedSimpArgs false
set_option linter.unusedVariables false
set_option linter.unusedSectionVars false
/- the sort of numbers: turned by tools/port_sort.py. -/
namespace Go.Proofs.YtcbhdecinfbakaaDoor.Srt
set_option maxHeartbeats 1000000 in
theorem So.cmp_isNaN_int (x : Int) (w : World) : Calls Tryd.prog 61 #[.int .u64 x] w fun e w' => e = .returned (.bool false) ∧ w' = w := by
  go_enter Tryd.func61, Tryd.ntmps61
  go_wp2
  go_ret
  exact ⟨by simp, rfl⟩
set_option maxHeartbeats 1000000 in
theorem So.cmp_Less_int (x y : Int) (w : World) : Calls Tryd.prog 44 #[.int .u64 x, .int .u64 y] w fun e w' => e = .returned (.bool (Sort.ltInt x y)) ∧ w' = w := by
  go_enter Tryd.func44, Tryd.ntmps44
  go_wp2_with (go_at_call 61; refine (So.cmp_isNaN_int _ _).mono ?_; rintro e w' ⟨rfl, rfl⟩)
  go_ret
  exact ⟨rfl, rfl⟩
end Go.Proofs.YtcbhdecinfbakaaDoor.Srt
