/-
  CanonKeys answers true at its second name.
-/
import Derived.Test.YtbecblfbikahkaaGreatDoorCc
set_option linter.all false
set_option linter.deprecated false
set_option maxRecDepth 1000000
namespace Go.D
open Go
namespace Ck
theorem g10 : Ck.Good 1 0 := by unfold Ck.Good; intro n m; kernel_rfl
theorem g11 : Ck.Good 1 1 := by unfold Ck.Good; intro n m; kernel_rfl
theorem g12 : Ck.Good 1 2 := by unfold Ck.Good; intro n m; kernel_rfl
theorem g13 : Ck.Good 1 3 := by unfold Ck.Good; intro n m; kernel_rfl
end Ck
end Go.D
