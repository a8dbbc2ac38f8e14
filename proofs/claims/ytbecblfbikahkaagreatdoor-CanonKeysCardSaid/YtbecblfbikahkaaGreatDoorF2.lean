/-
  CanonKeys answers true at its third name.
-/
import Derived.Test.YtbecblfbikahkaaGreatDoorCc
set_option linter.all false
set_option linter.deprecated false
set_option maxRecDepth 1000000
namespace Go.D
open Go
namespace Ck
theorem g20 : Ck.Good 2 0 := by unfold Ck.Good; intro n m; kernel_rfl
theorem g21 : Ck.Good 2 1 := by unfold Ck.Good; intro n m; kernel_rfl
theorem g22 : Ck.Good 2 2 := by unfold Ck.Good; intro n m; kernel_rfl
theorem g23 : Ck.Good 2 3 := by unfold Ck.Good; intro n m; kernel_rfl
end Ck
end Go.D
