/-
  CanonKeys answers true at its other names.
-/
import Derived.Test.YtbecblfbikahkaaGreatDoorCc
set_option linter.all false
set_option linter.deprecated false
set_option maxRecDepth 1000000
namespace Go.D
open Go
namespace Ck
theorem g5 (q : Nat) : Ck.Good 5 q := by unfold Ck.Good; intro n m; kernel_rfl
theorem g6 (q : Nat) : Ck.Good 6 q := by unfold Ck.Good; intro n m; kernel_rfl
theorem g7 (q : Nat) : Ck.Good 7 q := by unfold Ck.Good; intro n m; kernel_rfl
end Ck
end Go.D
