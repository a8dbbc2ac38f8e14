/-
  CanonKeys answers true at its fourth name.
-/
import Derived.Test.YtbecblfbikahkaaGreatDoorCc
set_option linter.all false
set_option linter.deprecated false
set_option maxRecDepth 1000000
namespace Go.D
open Go
namespace Ck
theorem g30 : Ck.Good 3 0 := by unfold Ck.Good; intro n m; kernel_rfl
theorem g31 : Ck.Good 3 1 := by unfold Ck.Good; intro n m; kernel_rfl
theorem g32 : Ck.Good 3 2 := by unfold Ck.Good; intro n m; kernel_rfl
theorem g33 : Ck.Good 3 3 := by unfold Ck.Good; intro n m; kernel_rfl
end Ck
end Go.D
