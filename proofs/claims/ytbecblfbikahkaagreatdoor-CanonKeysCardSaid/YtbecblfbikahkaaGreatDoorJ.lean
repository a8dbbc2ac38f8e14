/-
  The row's cells are what the program forces.
-/
import Derived.Test.YtbecblfbikahkaaGreatDoorCards
import Derived.ProofKit
import Derived.SevenTiedAt
import Derived.Stop.Joined
set_option linter.all false
set_option linter.deprecated false
set_option maxRecDepth 1000000
namespace Go.Proofs.YtbecblfbikahkaaGreatDoor
open Go
theorem and2 {a b : Bool} (h : a = true) (k : b = true) : (a && b) = true := by rw [h, k]; rfl
theorem ja1 : (Rows.canonKeysRow.wf (OpenSpec.ofChange Rows.canonKeysSpec)) = true := by kernel_rfl
theorem ja2 : (laidOutB Tryz.prog) = true := by kernel_rfl
theorem ja3 : (mapsRowed Tryz.prog) = true := by kernel_rfl
theorem ja4 : (Tryz.f3.params.all (Tryz.prog.readableRec ·)) = true := by kernel_rfl
theorem ja5 : (namedTie Tryz.prog Rows.canonKeysRow.named Rows.canonKeysSpec.vars) = true := by kernel_rfl
theorem ja6 : (Rows.canonKeysRow.stops == []) = true := by kernel_rfl
theorem ja7 : (Tryz.prog.stops == []) = true := by kernel_rfl
theorem ja8 : (Rows.canonKeysRow.knobs == []) = true := by kernel_rfl
theorem ja9 : (Tryz.prog.stopKnobs == []) = true := by kernel_rfl
theorem ja10 : (Rows.canonKeysRow.inPlace == Tryz.prog.inPlace 3) = true := by kernel_rfl
theorem ja11 : (Rows.canonKeysRow.unfollowed == Tryz.prog.unfollowed 3) = true := by kernel_rfl
theorem ja12 : (Rows.canonKeysRow.recurses == Tryz.prog.recurses 3) = true := by kernel_rfl
theorem ja13 : (Rows.canonKeysRow.named == Tryz.prog.varsNamed 3) = true := by kernel_rfl
theorem ja14 : (Rows.canonKeysRow.maps == (Tryz.f3.params.toList ++ Rows.canonKeysSpec.plain.varTypes Tryz.prog).any (Tryz.prog.mapsRec ·)) = true := by kernel_rfl
theorem ja15 : (Rows.canonKeysRow.ifaces == (Tryz.f3.params.toList ++ Rows.canonKeysSpec.plain.varTypes Tryz.prog).any (Tryz.prog.ifacesRec ·)) = true := by kernel_rfl
theorem ja16 : (Rows.canonKeysRow.mapsOut == Tryz.prog.mapsAmong Tryz.f3.resultTypes.toList) = true := by kernel_rfl
theorem ja17 : (Rows.canonKeysRow.loops == (Tryz.f3.params.toList ++ Rows.canonKeysSpec.plain.varTypes Tryz.prog).any (Tryz.prog.loopsFrom ·)) = true := by kernel_rfl
theorem ja18 : (Rows.canonKeysRow.wideKeys == (Tryz.f3.params.toList ++ Rows.canonKeysSpec.plain.varTypes Tryz.prog ++ Tryz.f3.resultTypes.toList).any (Tryz.prog.wideKeysFrom ·)) = true := by kernel_rfl
theorem ja19 : (Rows.canonKeysSpec.vars.all (Tryz.prog.varReadable ·)) = true := by kernel_rfl
theorem ja20 : (Tryz.f3.resultTypes.all (fun t => Tryz.prog.readableRec t && decide (t < Tryz.prog.types.size))) = true := by kernel_rfl
theorem ja21 : (Rows.canonKeysRow.ifacesOut == Tryz.f3.resultTypes.toList.any (Tryz.prog.ifacesRec ·)) = true := by kernel_rfl
theorem ja22 : (Rows.canonKeysRow.loopsOut == Tryz.f3.resultTypes.toList.any (Tryz.prog.loopsFrom ·)) = true := by kernel_rfl
theorem ja23 : (Rows.canonKeysRow.plainKeys == Tryz.prog.plainKeys) = true := by kernel_rfl
theorem ja24 : (Rows.canonKeysRow.shortTexts.isNone) = true := by kernel_rfl
theorem ja25 : (Tryz.prog.stopsHeard) = true := by kernel_rfl
theorem ja26 : (Tryz.prog.mayEnter) = true := by kernel_rfl
theorem ja27 : (Rows.canonKeysRow.lifted == Tryz.prog.liftsFinal) = true := by kernel_rfl
theorem ja28 : (Tryz.prog.make == some Rows.canonKeysRow.make) = true := by kernel_rfl
theorem ja29 : (Rows.canonKeysRow.kinds == (if Rows.canonKeysRow.domain.isEmpty then [] else Tryz.f3.params.toList.map fun t => match Tryz.prog.underlying t with | some (.int k) => some k | _ => none)) = true := by kernel_rfl
theorem ja30 : (Rows.canonKeysRow.pinned == Rows.canonKeysRow.pinnedBy) = true := by kernel_rfl
theorem ja31 : (Rows.canonKeysRow.veiled == (Tryz.f3.params.toList ++ Rows.canonKeysSpec.plain.varTypes Tryz.prog ++ Tryz.f3.resultTypes.toList).any (Tryz.prog.veiledRec ·)) = true := by kernel_rfl
theorem ja32 : (Rows.canonKeysRow.veiledFits Tryz.prog Tryz.f3.params.toList (Tryz.f3.params.toList ++ Rows.canonKeysSpec.plain.varTypes Tryz.prog ++ Tryz.f3.resultTypes.toList)) = true := by kernel_rfl
theorem keys_closed : joinedFacts Tryz.prog 3 Tryz.f3 Rows.canonKeysSpec Rows.canonKeysRow = true := by
  unfold joinedFacts
  exact (and2 (and2 (and2 (and2 (and2 (and2 (and2 (and2 (and2 (and2 (and2 (and2 (and2 (and2 (and2 (and2 (and2 (and2 (and2 (and2 (and2 (and2 (and2 (and2 (and2 (and2 (and2 (and2 (and2 (and2 (and2 ja1 ja2) ja3) ja4) ja5) ja6) ja7) ja8) ja9) ja10) ja11) ja12) ja13) ja14) ja15) ja16) ja17) ja18) ja19) ja20) ja21) ja22) ja23) ja24) ja25) ja26) ja27) ja28) ja29) ja30) ja31) ja32)
theorem keys_named : Tryz.prog.funcNamed "platen/platenlaw13.CanonKeys" = some 3 := by kernel_rfl
theorem keys_instance : Tryz.f3.isInstance Tryz.prog Rows.canonKeysRow.origin Rows.canonKeysRow.targs := of_decide_eq_true (by kernel_rfl)
theorem keys_wrapper : Tryz.f3.isWrapper Tryz.prog Rows.canonKeysRow.wrapper Rows.canonKeysRow.mainSum := by
  unfold Func.isWrapper; first | (rw [if_pos (by decide +kernel)]; kernel_rfl) | (rw [if_neg (by decide +kernel)]; exact ⟨rfl, rfl⟩)
theorem keys_wfText : Rows.canonKeysRow.wfByText (OpenSpec.ofChange Rows.canonKeysSpec) = true := by kernel_rfl
theorem keys_main : Tryz.prog.mainIs = some (true, "120cb896c4c00e8da2c0e7aa2db7ea8e2166fe6c6fdcbf7a1faa054549371e49".toList) := by kernel_rfl
theorem keys_looks : true = Tryz.prog.looks [] := by kernel_rfl
theorem keys_standIn : Tryz.prog.wantsStandIn 3 = false := by kernel_rfl
theorem keys_goes : false = Rows.canonKeysRow.goesBy Tryz.prog := by kernel_rfl
end Go.Proofs.YtbecblfbikahkaaGreatDoor
