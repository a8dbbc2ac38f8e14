/-
  CanonKeys answers true at its first name.
-/
import Derived.Test.YtbecblfbikahkaaGreatDoorCc
set_option linter.all false
set_option linter.deprecated false
set_option maxRecDepth 1000000
namespace Go.D
open Go
namespace Ck
theorem g00 : Ck.Good 0 0 := by unfold Ck.Good; intro n m; kernel_rfl
theorem g01 : Ck.Good 0 1 := by unfold Ck.Good; intro n m; kernel_rfl
theorem g02 : Ck.Good 0 2 := by unfold Ck.Good; intro n m; kernel_rfl
theorem g03 : Ck.Good 0 3 := by unfold Ck.Good; intro n m; kernel_rfl
end Ck
end Go.D
