/-
  CanonKeysCardSaid is proved: the law CanonKeys returns true at every pair of numbers, under the row's own condition alone (its listed package-level variables read as listed, which the card ties to the program's text).
-/
import Derived.Test.YtbecblfbikahkaaGreatDoorG
import Derived.Test.YtbecblfbikahkaaGreatDoorJ
import Derived.Test.YtbecblfbikahkaaGreatDoorF0
import Derived.Test.YtbecblfbikahkaaGreatDoorF1
import Derived.Test.YtbecblfbikahkaaGreatDoorF2
import Derived.Test.YtbecblfbikahkaaGreatDoorF3
import Derived.Test.YtbecblfbikahkaaGreatDoorF4
import Derived.Test.YtbecblfbikahkaaGreatDoorF5
import Derived.Test.YtbecblfbikahkaaGreatDoorTie
import Derived.Test.YtbecblfbikahkaaGreatDoorCards
import Derived.ProofKit
import Derived.OpenShut
import Derived.LaidMore
import Derived.Lay
import Derived.SevenTiedAt
import Derived.Stop.Joined
set_option linter.all false
set_option linter.deprecated false
set_option maxRecDepth 1000000
namespace Go.Proofs.YtbecblfbikahkaaGreatDoor
open Go.ChangeShapes Go.WideShapes Go.ChangeAt Go.RowKit
open Go.D.Ck (vals ascN fstN accN BlockOf)

theorem keys_all : ∀ r q, r < 8 → q < 4 → Go.D.Ck.Good r q
  | 0, 0, _, _ => Go.D.Ck.g00
  | 0, 1, _, _ => Go.D.Ck.g01
  | 0, 2, _, _ => Go.D.Ck.g02
  | 0, 3, _, _ => Go.D.Ck.g03
  | 1, 0, _, _ => Go.D.Ck.g10
  | 1, 1, _, _ => Go.D.Ck.g11
  | 1, 2, _, _ => Go.D.Ck.g12
  | 1, 3, _, _ => Go.D.Ck.g13
  | 2, 0, _, _ => Go.D.Ck.g20
  | 2, 1, _, _ => Go.D.Ck.g21
  | 2, 2, _, _ => Go.D.Ck.g22
  | 2, 3, _, _ => Go.D.Ck.g23
  | 3, 0, _, _ => Go.D.Ck.g30
  | 3, 1, _, _ => Go.D.Ck.g31
  | 3, 2, _, _ => Go.D.Ck.g32
  | 3, 3, _, _ => Go.D.Ck.g33
  | 4, 0, _, _ => Go.D.Ck.g40
  | 4, 1, _, _ => Go.D.Ck.g41
  | 4, 2, _, _ => Go.D.Ck.g42
  | 4, 3, _, _ => Go.D.Ck.g43
  | 5, q, _, _ => Go.D.Ck.g5 q
  | 6, q, _, _ => Go.D.Ck.g6 q
  | 7, q, _, _ => Go.D.Ck.g7 q
  | 0, _ + 4, _, h => absurd h (by omega)
  | 1, _ + 4, _, h => absurd h (by omega)
  | 2, _ + 4, _, h => absurd h (by omega)
  | 3, _ + 4, _, h => absurd h (by omega)
  | 4, _ + 4, _, h => absurd h (by omega)
  | _ + 8, _, h, _ => absurd h (by omega)

/-! ### from the row's condition to the variables' blocks -/
abbrev plainL : List (String × DataW Unit) := [("unicode/utf8.acceptRanges", Rows.laid_unicode_utf8_acceptRanges), ("unicode.White_Space", Rows.laid_unicode_White_Space), ("strings.asciiSpace", Rows.laid_strings_asciiSpace), ("unicode.CaseRanges", Rows.laid_unicode_CaseRanges), ("unicode/utf8.first", Rows.laid_unicode_utf8_first)]
abbrev handleL : List (String × DataW Unit) := [("errors.errorType", Rows.laid_errors_errorType)]
theorem laid_parts (W : World) : laidMetH Tryz.prog Rows.canonKeysRow.laid W = (laidMet Tryz.prog plainL W ∧ handlesMet Tryz.prog handleL W) := by kernel_rfl

theorem vals_of (l : List Nat) : ((l.map Int.ofNat).map fun z => Value.int .u8 z) = vals l := by simp [vals]

theorem datum_asc : (Rows.laid_strings_asciiSpace : DataW Unit) = Lib.tabData .u8 (ascN.map Int.ofNat) := by kernel_rfl
theorem datum_fst : (Rows.laid_unicode_utf8_first : DataW Unit) = Lib.tabData .u8 (fstN.map Int.ofNat) := by kernel_rfl
abbrev accP (i : Nat) : DataW Unit := .agg [.lit (.int .u8 (.ofNat (accN.getD (2 * i) 0))), .lit (.int .u8 (.ofNat (accN.getD (2 * i + 1) 0)))]
theorem datum_acc : (Rows.laid_unicode_utf8_acceptRanges : DataW Unit) = .agg ((List.range 16).map accP) := by kernel_rfl

theorem acc_cells {w : World} {base : Nat} {sp : Nat → Bool} {held : Bool} {fuel : Nat} {cs : List Value} {p : List MemPlace}
    (h : DataW.trod (fun _ => ()) Tryz.prog w base sp held fuel 215 cs = some (Rows.laid_unicode_utf8_acceptRanges, p)) : cs = vals accN := by
  rw [datum_acc] at h
  obtain ⟨xs, m, _, hx, hl, hn, hel⟩ := DataW.trod_array Tryz.underlying215 h
  have c214 : Tryz.prog.cellsOf 214 = 2 := by kernel_rfl
  have c215 : Tryz.prog.cellsOf 215 = 32 := by kernel_rfl
  have c5 : Tryz.prog.cellsOf 5 = 1 := by kernel_rfl
  rw [c215] at hl
  have hxs : xs.map (·.1) = (List.range 16).map accP := (DataW.agg.inj (Prod.mk.inj hx).1).symm
  have pair : ∀ i, i < 16 → cs[2 * i]? = some (.int .u8 (.ofNat (accN.getD (2 * i) 0))) ∧ cs[2 * i + 1]? = some (.int .u8 (.ofNat (accN.getD (2 * i + 1) 0))) := by
    intro i hi
    have hE := hel i hi
    rw [c214, List.getElem?_eq_getElem (by omega : i < xs.length)] at hE
    obtain ⟨y0, y1, m', hxy, _, k0, k1⟩ := trod_struct2 Tryz.underlying214 hE
    simp only [c5] at k0 k1
    obtain ⟨z0, q0, r0, _⟩ := DataW.trod_int Tryz.underlying5 k0
    obtain ⟨z1, q1, r1, _⟩ := DataW.trod_int Tryz.underlying5 k1
    have e1 : (xs.map (·.1))[i]? = some (accP i) := by rw [hxs]; simp [hi]
    rw [List.getElem?_map, List.getElem?_eq_getElem (by omega : i < xs.length), hxy] at e1
    simp only [Option.map_some, Option.some.injEq, DataW.agg.injEq, List.cons.injEq, and_true] at e1
    rw [r0, r1] at e1
    simp only [DataW.lit.injEq, Lit.int.injEq, true_and] at e1
    obtain ⟨e2, e3⟩ := e1
    have t0 : (List.take 1 (List.drop 0 (List.take 2 (List.drop (i * 2) cs))))[0]? = some (.int .u8 z0) := by rw [q0]; rfl
    have t1 : (List.take 1 (List.drop 1 (List.take 2 (List.drop (i * 2) cs))))[0]? = some (.int .u8 z1) := by rw [q1]; rfl
    simp [List.getElem?_drop] at t0 t1
    rw [Nat.mul_comm] at t0 t1
    exact ⟨by rw [t0, e2], by rw [t1, e3]⟩
  apply List.ext_getElem?
  intro j
  by_cases hj : j < 32
  · have hv : (vals accN)[j]? = some (.int .u8 (.ofNat (accN.getD j 0))) := by
      have hlen : accN.length = 32 := rfl
      simp only [vals, List.getElem?_map, List.getD_eq_getElem?_getD]
      rw [List.getElem?_eq_getElem (by omega)]; rfl
    rw [hv]
    rcases Nat.mod_two_eq_zero_or_one j with h2 | h2
    · have := (pair (j / 2) (by omega)).1
      rwa [show 2 * (j / 2) = j by omega] at this
    · have := (pair (j / 2) (by omega)).2
      rwa [show 2 * (j / 2) + 1 = j by omega] at this
  · have hlen : (vals accN).length = 32 := rfl
    rw [List.getElem?_eq_none (by omega), List.getElem?_eq_none (by omega)]

theorem block_of {W : World} {g t : Nat} {name : String} {l : List Nat} {c : Array Value} (hn : Tryz.prog.globalNamed name = some g) (hs : ∃ cs, W.heap[g]? = some (.cells cs t)) (hv : W.var? Tryz.prog name = some c) (hc : c.toList = vals l) : BlockOf W g t l := by
  obtain ⟨cs, h1⟩ := hs
  simp only [World.var?, hn, Option.bind_some, h1] at hv
  injection hv with hv; subst hv
  exact ⟨cs, h1, hc⟩

theorem shape_at {W : World} (h : W.ShapedOpen Tryz.prog) {g t : Nat} {zero : Array Value} (hg : g < Tryz.prog.globals.size) (hz : (((begin Tryz.prog (fun _ _ => 0) default).world.heap[g]?).bind Obj.row?) = some (zero, t)) : ∃ cs, W.heap[g]? = some (.cells cs t) := by
  obtain ⟨cs, h1, _⟩ := h.1 g zero t hg hz
  exact ⟨cs, h1⟩

theorem blocks_of {W : World} (hL : laidMetH Tryz.prog Rows.canonKeysRow.laid W) (hS : W.ShapedOpen Tryz.prog) : BlockOf W 0 168 ascN ∧ BlockOf W 3 168 fstN ∧ BlockOf W 4 215 accN ∧ 8 ≤ W.heap.size := by
  rw [laid_parts] at hL
  obtain ⟨⟨ps, hL, _, _⟩, _⟩ := hL
  obtain ⟨g4, t4, c4, f4, p4, q4, a1, a2, a3, a4, hL, _⟩ := hL
  obtain ⟨_, _, _, _, _, _, _, _, _, _, hL, _⟩ := hL
  obtain ⟨g0, t0, c0, f0, p0, q0, b1, b2, b3, b4, hL, _⟩ := hL
  obtain ⟨_, _, _, _, _, _, _, _, _, _, hL, _⟩ := hL
  obtain ⟨g3, t3, c3, f3, p3, q3, d1, d2, d3, d4, _, _⟩ := hL
  have n4 : Tryz.prog.globalNamed "unicode/utf8.acceptRanges" = some 4 := by kernel_rfl
  have n0 : Tryz.prog.globalNamed "strings.asciiSpace" = some 0 := by kernel_rfl
  have n3 : Tryz.prog.globalNamed "unicode/utf8.first" = some 3 := by kernel_rfl
  obtain rfl := Option.some.inj (n4.symm.trans a1)
  obtain rfl := Option.some.inj (n0.symm.trans b1)
  obtain rfl := Option.some.inj (n3.symm.trans d1)
  obtain rfl := Option.some.inj ((show (Tryz.prog.globals[4]?).map (·.type) = some 215 by kernel_rfl).symm.trans a2)
  obtain rfl := Option.some.inj ((show (Tryz.prog.globals[0]?).map (·.type) = some 168 by kernel_rfl).symm.trans b2)
  obtain rfl := Option.some.inj ((show (Tryz.prog.globals[3]?).map (·.type) = some 168 by kernel_rfl).symm.trans d2)
  rw [datum_asc] at b4
  rw [datum_fst] at d4
  have e0 := (Lib.cells_of_tab Tryz.underlying168 Tryz.underlying5 (by kernel_rfl) (by kernel_rfl) b4).trans (vals_of ascN)
  have e3 := (Lib.cells_of_tab Tryz.underlying168 Tryz.underlying5 (by kernel_rfl) (by kernel_rfl) d4).trans (vals_of fstN)
  have e4 := acc_cells a4
  have ng := Go.D.Ck.nglob
  have s0 := shape_at hS (g := 0) (t := 168) (zero := Array.replicate 256 (.int .u8 0)) (by rw [ng]; omega) (by kernel_rfl)
  have s3 := shape_at hS (g := 3) (t := 168) (zero := Array.replicate 256 (.int .u8 0)) (by rw [ng]; omega) (by kernel_rfl)
  have s4 := shape_at hS (g := 4) (t := 215) (zero := Array.replicate 32 (.int .u8 0)) (by rw [ng]; omega) (by kernel_rfl)
  obtain ⟨c7, s7⟩ := shape_at hS (g := 7) (t := 202) (zero := #[.pointer none]) (by rw [ng]; omega) (by kernel_rfl)
  refine ⟨block_of n0 s0 b3 e0, block_of n3 s3 d3 e3, block_of n4 s4 a3 e4, ?_⟩
  have := (Array.getElem?_eq_some_iff.1 s7).1
  omega

/-! ### a start that fits -/
theorem own : ownKnob Tryz.prog.godebug = none := by kernel_rfl
noncomputable def rtypeId : Nat := ((Tryz.prog.cutTypes.find? (·.1 == "internal/reflectlite.rtype")).map (·.2)).getD 0
noncomputable def errorId : Nat := ((List.range 318).filter fun t => Tryz.prog.rowNamed t [101, 114, 114, 111, 114]).headD 0
noncomputable def baseW (os : Os) : World :=
  let w0 := World.holding Tryz.prog os ⟨#[], #[], []⟩
  { w0 with heap := w0.heap.modify 6 fun
      | .cells _ t frozen => .cells #[.iface rtypeId (.agg #[typeHandle Tryz.prog errorId])] t frozen
      | o => o }
noncomputable def startW (os : Os) : World := (baseW os).layVars Tryz.prog plainL
theorem startW_os (os : Os) : (startW os).os = os := World.layVars_os _ _ _
theorem start_met (os : Os) (args : Array Value) : laidMetH Tryz.prog Rows.canonKeysRow.laid ((startW os).forCall (fun _ _ => 0) ⟨#[], args, []⟩).memory := by
  refine laidMetH_of_parts ?_ (by kernel_rfl)
  have e0 : (Rows.canonKeysRow.laid.filter fun x => x.2.handleName?.isNone) = plainL := by kernel_rfl
  rw [e0]
  have e1 : (plainL.filter fun x => (plainL.map (·.1)).contains x.1) = plainL := by kernel_rfl
  have e2 : (plainL.filter fun x => !(plainL.map (·.1)).contains x.1) = [] := by kernel_rfl
  have h : laidMet Tryz.prog plainL (startW os) := laidMet_layVars (w0 := baseW os) (plainL.map (·.1)) [] (by rw [e1]; rfl) (by rw [e1]; kernel_rfl) (by rw [e1]; kernel_rfl) (by rw [e2]; exact LaidIn.none)
  exact h.of_heap (by simp [World.memory, World.forCall, Input.heap])

theorem keys_lifted (os : Os) (started : os.Started) (H : Type) (enc : TypeId × Value → H) :
    ReturnsInHanded {} Tryz.checked os 3 .any (fun w args => (Rows.canonKeysSpec.pre enc Tryz.prog Tryz.f3 [] false w args ∧ laidMetH Tryz.prog Rows.canonKeysRow.laid w) ∧ sizedMet enc Tryz.prog Tryz.f3 (OpenSpec.ofChange Rows.canonKeysSpec) false w args)
      (Rows.canonKeysSpec.post enc Tryz.prog Tryz.f3 false true false false) := by
  refine returnsInHanded_of_calls own started (by kernel_rfl)
    (ChangeSpec.witness_shaped (enc := enc) (C := Tryz.checked) (os := os) (X := fun w _ => laidMetH Tryz.prog Rows.canonKeysRow.laid w) false (startW os) #[.int .i64 0, .int .i64 0] 8 (startW_os _)
      (World.shaped_of_ZipB (by kernel_rfl) (by kernel_rfl)) (by kernel_rfl) (by kernel_rfl) (by kernel_rfl) (start_met os _)) ?_
  intro w tape i _ hS _ hok hpre _
  obtain ⟨_, _, _, fn', hfn', _, _, _, _, hval0⟩ := hok
  obtain rfl : fn' = Tryz.f3 := Option.some.inj (hfn'.symm.trans Tryz.func3)
  obtain ⟨⟨⟨ds, gs, before, hw, _⟩, hx⟩, _⟩ := hpre
  have hW := DataW.Whole.of_heap (w' := w.forCall tape i) (by rfl) hw
  have hL : laidMetH Tryz.prog Rows.canonKeysRow.laid (w.forCall tape i) := hx.of_heap (by rfl)
  generalize w.forCall tape i = W at hS hval0 hW hL
  have hval : ∀ (j : Nat) t v, Tryz.f3.params[j]? = some t → i.args[j]? = some v → Value.okWide Tryz.prog W .any w.heap.size t v := hval0
  have hW' := hW
  obtain ⟨p, q, hA0, hV, rfl, _, _⟩ := hW
  have hA : DataW.TrodAll enc Tryz.prog W 0 (fun _ => true) true Tryz.f3.params.toList i.args.toList ds p := hA0
  generalize i.args = args at hA hval hW'
  rw [Tryz.params3] at hA hval
  obtain ⟨v0, v1, d0, d1, p0, p1, rfl, rfl, rfl, h0, h1⟩ := trodAll_two hA
  obtain ⟨rfl, rfl⟩ := trodVars_none hV
  obtain ⟨n, rfl, rfl, rfl, wn⟩ := open_int Tryz.underlying3 (hval 0 3 v0 rfl rfl) h0
  obtain ⟨m, rfl, rfl, rfl, wm⟩ := open_int Tryz.underlying3 (hval 1 3 v1 rfl rfl) h1
  simp only [List.append_nil] at hW'
  obtain ⟨k0, k3, k4, k8⟩ := blocks_of hL hS
  refine (Go.D.Ck.keys_calls keys_all n m k0 k3 k4 k8).mono fun e W' ⟨he, hos, hou, hheap⟩ => ?_
  subst he
  refine ChangeSpec.post_blind ?_
  exact ⟨_, _, _, [], [], [], hW', trodAll_mk1 (shut_bool Tryz.underlying4 true), trodAll_mk2 (shut_int Tryz.underlying3 wn) (shut_int Tryz.underlying3 wm), rfl, Go.D.Ck.keptBut_of_same hos hou hheap, fun h => by cases h⟩

theorem canonKeys_holds : Rows.CanonKeysSaid :=
  OpenClaim.holds_of_wide 3 Tryz.f3 rfl rfl rfl rfl rfl rfl rfl ⟨rfl, rfl, rfl, rfl, rfl⟩ rfl rfl rfl rfl rfl keys_named Tryz.func3 keys_closed
    keys_instance keys_wrapper (fun os started H enc _ => keys_lifted os started H enc)

theorem canonKeys_card : Rows.CanonKeysCardSaid :=
  Claim7.holds_tied_plain_at .later [] [.data, .handle, .listed, .data, .pinned, .pinned] true (true, "120cb896c4c00e8da2c0e7aa2db7ea8e2166fe6c6fdcbf7a1faa054549371e49") true
    canonKeys_holds (fun _ h => by cases h) keys_wfText (fun _ h => by cases h) canonKeys_row_tie rfl ⟨rfl, rfl⟩ keys_main rfl
    (fun f fn hf hfn => by
      obtain rfl : f = 3 := Option.some.inj (keys_named.symm.trans hf) |>.symm
      obtain rfl : fn = Tryz.f3 := (Option.some.inj (Tryz.func3.symm.trans hfn)).symm
      exact ⟨keys_looks, fun j t ht => by
        rw [Tryz.params3] at ht
        have h3 : t = 3 := by
          rcases j with _ | _ | j
          · simpa using ht.symm
          · simpa using ht.symm
          · simp at ht
        subst h3
        exact keys_standIn⟩)
    keys_goes
#print axioms canonKeys_card
end Go.Proofs.YtbecblfbikahkaaGreatDoor
