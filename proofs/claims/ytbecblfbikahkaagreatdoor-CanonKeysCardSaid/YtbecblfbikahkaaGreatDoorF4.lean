/-
  CanonKeys answers true at its fifth name.
-/
import Derived.Test.YtbecblfbikahkaaGreatDoorCc
set_option linter.all false
set_option linter.deprecated false
set_option maxRecDepth 1000000
namespace Go.D
open Go
namespace Ck
theorem g40 : Ck.Good 4 0 := by unfold Ck.Good; intro n m; kernel_rfl
theorem g41 : Ck.Good 4 1 := by unfold Ck.Good; intro n m; kernel_rfl
theorem g42 : Ck.Good 4 2 := by unfold Ck.Good; intro n m; kernel_rfl
theorem g43 : Ck.Good 4 3 := by unfold Ck.Good; intro n m; kernel_rfl
end Ck
end Go.D
