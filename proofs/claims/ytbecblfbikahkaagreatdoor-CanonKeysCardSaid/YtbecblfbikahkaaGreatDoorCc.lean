/-
  The seat's program in the little language, and CanonKeys with its two numbers known.
-/
import Derived.Test.YtbecblfbikahkaaGreatDoorCb
import Derived.Test.YtbecblfbikahkaaGreatDoorDj
import Derived.Test.YtbecblfbikahkaaGreatDoorDl
set_option linter.all false
set_option linter.deprecated false
set_option maxRecDepth 1000000
namespace Go.D
open Go Go.Proofs
namespace Ck
theorem mixed : Tryz.prog.follows .mixedOrders = true := by kernel_rfl
def D0 : DProg := ⟨fun f => bif Nat.beq f 53 then some (Ms.dw 48 97) else none, fun _ _ _ => none⟩
theorem known_none (P : Program) (f : Nat) : KnownOk P f (fun _ _ => none) := by
  intro dargs ρ s w args out s' h; cases h
theorem p53 : PlainOk Tryz.prog 53 (Ms.dw 48 97) := ⟨_, _, Tryz.func53, by kernel_rfl, rfl, by kernel_rfl, by kernel_rfl, rfl, by kernel_rfl⟩
theorem d0_ok : DOk Tryz.prog D0 := dOk (fun f df h => by
    have h : (bif Nat.beq f 53 then some (Ms.dw 48 97) else none) = some df := h
    rcases Bool.eq_false_or_eq_true (Nat.beq f 53) with hb | hb
    · rw [hb] at h; have := Nat.eq_of_beq_eq_true hb; subst this
      injection h with h; subst h
      exact .inl p53
    · rw [hb] at h; cases h) (fun f _ => known_none _ f)
theorem e0 : ∀ n, ExecOk Tryz.prog D0 n := fun n => (exec_ok d0_ok (draw_ok mixed) n).1 n (Nat.le_refl n)
theorem k28 : KnownOk Tryz.prog 28 (knownD .measure) :=
  Ms.measure_known (D := D0) (fw := 53) (fi := 97) (ti := 3) (tc := 33) (tp := 48) (el := 138) e0 Tryz.func28
    { name := by kernel_rfl, body := rfl, hRA := by kernel_rfl, hRB := by kernel_rfl, hA := by kernel_rfl, hB := by kernel_rfl, sA := by kernel_rfl, sB := by kernel_rfl, hC := by kernel_rfl, inA := by kernel_rfl, inB := by kernel_rfl, inRA := by kernel_rfl, inRB := by kernel_rfl, inC := by kernel_rfl, room := of_decide_eq_true (by kernel_rfl), res := by kernel_rfl, fw := by kernel_rfl }
    Tryz.func97 (by kernel_rfl) rfl rfl
    (fun N0 => { hR0 := by kernel_rfl, hC1 := by kernel_rfl, hR2 := by kernel_rfl, hR3 := by kernel_rfl, hR4 := by kernel_rfl, hon := by kernel_rfl, ocop := rfl, ocd := rfl, ocg := rfl, hR5 := by kernel_rfl, hL2 := by kernel_rfl, inR0 := by kernel_rfl, inC1 := by kernel_rfl, inR2 := by kernel_rfl, inR3 := by kernel_rfl, inR4 := by kernel_rfl, inon := by kernel_rfl, inR5 := by kernel_rfl, inL2 := by kernel_rfl, room := of_decide_eq_true (by kernel_rfl) })
noncomputable abbrev j100 : TypeInfo := (Tryz.prog.info? 100).getD default
theorem k105 : KnownOk Tryz.prog 105 (knownD (.copyCheck 100)) :=
  Cc.copy_known (D := D0) (T := 100) (fe := 151) (fne := Tryz.f151) (tp := 97) (tu := 186) (j := j100) e0 Tryz.func105
    { name := by kernel_rfl, body := rfl, hR0 := by kernel_rfl, h1 := by kernel_rfl, h1b := by kernel_rfl, p9 := ⟨rfl, rfl, rfl⟩, p10 := ⟨rfl, rfl, rfl⟩, p11 := ⟨rfl, rfl, rfl⟩, hR2 := by kernel_rfl, in0 := by kernel_rfl, in1 := by kernel_rfl, in1b := by kernel_rfl, in2 := by kernel_rfl, room := of_decide_eq_true (by kernel_rfl), res := rfl, utp := Tryz.underlying97, utu := Tryz.underlying186, ti := by kernel_rfl, tsz := of_decide_eq_true (by kernel_rfl), lies := by kernel_rfl, lone := by kernel_rfl, fe := Tryz.func151, fen := by kernel_rfl, feb := by kernel_rfl, fe1 := by kernel_rfl, fe2 := by kernel_rfl }
theorem k174 : KnownOk Tryz.prog 174 (knownD .indexByte) := index_known ⟨_, Tryz.func174, by kernel_rfl, by kernel_rfl, by kernel_rfl, by kernel_rfl⟩
theorem k146 : KnownOk Tryz.prog 146 (knownD .countByte) := count_known ⟨_, Tryz.func146, by kernel_rfl, by kernel_rfl, by kernel_rfl, by kernel_rfl⟩
theorem k175 : KnownOk Tryz.prog 175 (knownD (.makeNoZero 5)) := row_known (t := 98) (ps := Tryz.f175.params) ⟨_, Tryz.func175, by kernel_rfl, by kernel_rfl, by kernel_rfl, by kernel_rfl⟩ Tryz.underlying98 (by kernel_rfl)
theorem k26 : KnownOk Tryz.prog 26 (knownD .hasPrefix) := prefix_known Tryz.func26 (by kernel_rfl) (by kernel_rfl) (Any.strings_HasPrefix Tryz.lays99)
theorem k47 : KnownOk Tryz.prog 47 (knownD .hasPrefix) := prefix_known Tryz.func47 (by kernel_rfl) (by kernel_rfl) (Any.stringslite_HasPrefix Tryz.lays206)
theorem k69 : KnownOk Tryz.prog 69 (fieldsB 0 9) := fields_known Tryz.func69 (by kernel_rfl) (by kernel_rfl) (of_decide_eq_true (by kernel_rfl)) (by kernel_rfl)
  (fun s w h1 h2 h3 => Any.strings_Fields_core Tryz.lays157 (by kernel_rfl) s w h1 h2 h3)
end Ck
end Go.D
set_option maxRecDepth 1000000
namespace Go.D
open Go Go.Proofs
/-- a fact of all that a tree holds; g: the places -/
def AllT {α : Type} (p : Nat → α → Prop) : Tr α → (Nat → Nat) → Prop
  | .leaf, _ => True
  | .node v l r, g => (∀ x, v = some x → p (g 0) x) ∧ AllT p l (fun k => g (2 * k + 1)) ∧ AllT p r (fun k => g (2 * k + 2))
theorem allT_get {α : Type} {p : Nat → α → Prop} : ∀ (t : Tr α) (g : Nat → Nat), AllT p t g → ∀ k x, Tr.get t k = some x → p (g k) x
  | .leaf, _, _, k, x, h => by cases h
  | .node v l r, g, ha, k, x, h => by
    unfold Tr.get at h
    rcases Bool.eq_false_or_eq_true (Nat.beq k 0) with h0 | h0
    · rw [h0] at h; have := Nat.eq_of_beq_eq_true h0; subst this; exact ha.1 x h
    · rw [h0] at h
      have hk : k ≠ 0 := fun e => by subst e; cases h0
      have hland : Nat.land k 1 = k % 2 := Nat.and_one_is_mod k
      have hsh : Nat.shiftRight (Nat.pred k) 1 = (k - 1) / 2 := by
        show (k - 1) >>> 1 = _
        rw [Nat.shiftRight_succ, Nat.shiftRight_zero]
      rw [hland, hsh] at h
      rcases Nat.mod_two_eq_zero_or_one k with h2 | h2
      · rw [h2] at h
        have h3 := allT_get r _ ha.2.2 _ x h
        have e : 2 * ((k - 1) / 2) + 2 = k := by omega
        simp only [e] at h3; exact h3
      · rw [h2] at h
        have h3 := allT_get l _ ha.2.1 _ x h
        have e : 2 * ((k - 1) / 2) + 1 = k := by omega
        simp only [e] at h3; exact h3
namespace Ck
def ascN : List Nat := [0,0,0,0,0,0,0,0,0,1,1,1,1,1,0,0,0,0,0,0,0,0,0,0,0,0,0,0,0,0,0,0,1,0,0,0,0,0,0,0,0,0,0,0,0,0,0,0,0,0,0,0,0,0,0,0,0,0,0,0,0,0,0,0,0,0,0,0,0,0,0,0,0,0,0,0,0,0,0,0,0,0,0,0,0,0,0,0,0,0,0,0,0,0,0,0,0,0,0,0,0,0,0,0,0,0,0,0,0,0,0,0,0,0,0,0,0,0,0,0,0,0,0,0,0,0,0,0,0,0,0,0,0,0,0,0,0,0,0,0,0,0,0,0,0,0,0,0,0,0,0,0,0,0,0,0,0,0,0,0,0,0,0,0,0,0,0,0,0,0,0,0,0,0,0,0,0,0,0,0,0,0,0,0,0,0,0,0,0,0,0,0,0,0,0,0,0,0,0,0,0,0,0,0,0,0,0,0,0,0,0,0,0,0,0,0,0,0,0,0,0,0,0,0,0,0,0,0,0,0,0,0,0,0,0,0,0,0,0,0,0,0,0,0,0,0,0,0,0,0,0,0,0,0,0,0]
def fstN : List Nat := [240,240,240,240,240,240,240,240,240,240,240,240,240,240,240,240,240,240,240,240,240,240,240,240,240,240,240,240,240,240,240,240,240,240,240,240,240,240,240,240,240,240,240,240,240,240,240,240,240,240,240,240,240,240,240,240,240,240,240,240,240,240,240,240,240,240,240,240,240,240,240,240,240,240,240,240,240,240,240,240,240,240,240,240,240,240,240,240,240,240,240,240,240,240,240,240,240,240,240,240,240,240,240,240,240,240,240,240,240,240,240,240,240,240,240,240,240,240,240,240,240,240,240,240,240,240,240,240,241,241,241,241,241,241,241,241,241,241,241,241,241,241,241,241,241,241,241,241,241,241,241,241,241,241,241,241,241,241,241,241,241,241,241,241,241,241,241,241,241,241,241,241,241,241,241,241,241,241,241,241,241,241,241,241,241,241,241,241,241,241,241,241,241,241,2,2,2,2,2,2,2,2,2,2,2,2,2,2,2,2,2,2,2,2,2,2,2,2,2,2,2,2,2,2,19,3,3,3,3,3,3,3,3,3,3,3,3,35,3,3,52,4,4,4,68,241,241,241,241,241,241,241,241,241,241,241]
def accN : List Nat := [128,191,160,191,128,159,144,191,128,143,0,0,0,0,0,0,0,0,0,0,0,0,0,0,0,0,0,0,0,0,0,0]
def bytesV : List Nat → List DV
  | [] => []
  | n :: l => nb n :: bytesV l
def s0 : St := ⟨((((Tr.leaf.put 0 (.cells (bytesV ascN) 168 256)).put 3 (.cells (bytesV fstN) 168 256)).put 4 (.cells (bytesV accN) 215 32))), 8⟩
def known : Nat → List DV → St → Option (Out × St)
  | 26 => knownD .hasPrefix
  | 28 => knownD .measure
  | 47 => knownD .hasPrefix
  | 69 => fieldsB 0 9
  | 105 => knownD (.copyCheck 100)
  | 146 => knownD .countByte
  | 174 => knownD .indexByte
  | 175 => knownD (.makeNoZero 5)
  | _ => fun _ _ => none
def DP : DProg := ⟨fun f => Tr.get tab f, known⟩
theorem tab_ok : AllT (fun f df => PlainOk Tryz.prog f df ∨ MoreOk Tryz.prog DP f df) tab (fun k => k) :=
  ⟨(fun x h => by cases h), ⟨(fun x h => by cases h), ⟨(fun x h => by injection h with h; subst h; exact .inl p3), ⟨(fun x h => by injection h with h; subst h; exact .inl p7), ⟨(fun x h => by cases h), ⟨(fun x h => by injection h with h; subst h; exact .inl p31), ⟨(fun x h => by injection h with h; subst h; exact .inl p63), ⟨(fun x h => by injection h with h; subst h; exact .inl p127), trivial, trivial⟩, trivial⟩, ⟨(fun x h => by cases h), trivial, ⟨(fun x h => by injection h with h; subst h; exact .inl p223), trivial, trivial⟩⟩⟩, ⟨(fun x h => by cases h), ⟨(fun x h => by injection h with h; subst h; exact .inl p79), ⟨(fun x h => by injection h with h; subst h; exact .inl p143), ⟨(fun x h => by injection h with h; subst h; exact .inl p271), trivial, trivial⟩, trivial⟩, trivial⟩, ⟨(fun x h => by cases h), ⟨(fun x h => by cases h), ⟨(fun x h => by injection h with h; subst h; exact .inl p303), trivial, trivial⟩, trivial⟩, trivial⟩⟩⟩, ⟨(fun x h => by injection h with h; subst h; exact .inl p23), ⟨(fun x h => by injection h with h; subst h; exact .inl p39), ⟨(fun x h => by injection h with h; subst h; exact .inl p71), trivial, trivial⟩, ⟨(fun x h => by injection h with h; subst h; exact .inl p103), ⟨(fun x h => by injection h with h; subst h; exact .inl p167), trivial, trivial⟩, trivial⟩⟩, ⟨(fun x h => by injection h with h; subst h; exact .inl p55), ⟨(fun x h => by injection h with h; subst h; exact .inl p87), ⟨(fun x h => by cases h), ⟨(fun x h => by injection h with h; subst h; exact .inl p279), trivial, trivial⟩, trivial⟩, trivial⟩, ⟨(fun x h => by cases h), ⟨(fun x h => by injection h with h; subst h; exact .inl p183), trivial, trivial⟩, trivial⟩⟩⟩⟩, ⟨(fun x h => by injection h with h; subst h; exact .inr (more_sound p11)), ⟨(fun x h => by injection h with h; subst h; exact .inl p19), ⟨(fun x h => by cases h), ⟨(fun x h => by cases h), ⟨(fun x h => by injection h with h; subst h; exact .inl p131), trivial, trivial⟩, trivial⟩, ⟨(fun x h => by injection h with h; subst h; exact .inl p99), ⟨(fun x h => by cases h), ⟨(fun x h => by injection h with h; subst h; exact .inl p291), trivial, trivial⟩, trivial⟩, trivial⟩⟩, ⟨(fun x h => by cases h), ⟨(fun x h => by injection h with h; subst h; exact .inl p83), ⟨(fun x h => by injection h with h; subst h; exact .inl p147), trivial, trivial⟩, trivial⟩, trivial⟩⟩, ⟨(fun x h => by injection h with h; subst h; exact .inl p27), ⟨(fun x h => by cases h), ⟨(fun x h => by injection h with h; subst h; exact .inl p75), ⟨(fun x h => by injection h with h; subst h; exact .inl p139), trivial, trivial⟩, trivial⟩, ⟨(fun x h => by injection h with h; subst h; exact .inl p107), ⟨(fun x h => by injection h with h; subst h; exact .inl p171), ⟨(fun x h => by injection h with h; subst h; exact .inl p299), trivial, trivial⟩, trivial⟩, trivial⟩⟩, ⟨(fun x h => by injection h with h; subst h; exact .inl p59), ⟨(fun x h => by injection h with h; subst h; exact .inl p91), trivial, trivial⟩, ⟨(fun x h => by injection h with h; subst h; exact .inl p123), trivial, trivial⟩⟩⟩⟩⟩, ⟨(fun x h => by injection h with h; subst h; exact .inl p5), ⟨(fun x h => by injection h with h; subst h; exact .inl p9), ⟨(fun x h => by injection h with h; subst h; exact .inl p17), ⟨(fun x h => by injection h with h; subst h; exact .inl p33), ⟨(fun x h => by injection h with h; subst h; exact .inl p65), ⟨(fun x h => by cases h), ⟨(fun x h => by injection h with h; subst h; exact .inl p257), trivial, trivial⟩, trivial⟩, trivial⟩, ⟨(fun x h => by cases h), ⟨(fun x h => by cases h), ⟨(fun x h => by injection h with h; subst h; exact .inl p289), trivial, trivial⟩, trivial⟩, ⟨(fun x h => by injection h with h; subst h; exact .inl p225), trivial, trivial⟩⟩⟩, ⟨(fun x h => by cases h), ⟨(fun x h => by injection h with h; subst h; exact .inl p81), trivial, trivial⟩, ⟨(fun x h => by injection h with h; subst h; exact .inl p113), trivial, ⟨(fun x h => by injection h with h; subst h; exact .inl p241), trivial, trivial⟩⟩⟩⟩, ⟨(fun x h => by injection h with h; subst h; exact .inl p25), ⟨(fun x h => by cases h), ⟨(fun x h => by injection h with h; subst h; exact .inl p73), ⟨(fun x h => by injection h with h; subst h; exact .inl p137), trivial, trivial⟩, ⟨(fun x h => by injection h with h; subst h; exact .inl p201), trivial, trivial⟩⟩, ⟨(fun x h => by cases h), ⟨(fun x h => by injection h with h; subst h; exact .inl p169), ⟨(fun x h => by injection h with h; subst h; exact .inl p297), trivial, trivial⟩, trivial⟩, ⟨(fun x h => by injection h with h; subst h; exact .inl p233), trivial, trivial⟩⟩⟩, ⟨(fun x h => by injection h with h; subst h; exact .inl p57), ⟨(fun x h => by cases h), ⟨(fun x h => by injection h with h; subst h; exact .inl p153), ⟨(fun x h => by injection h with h; subst h; exact .inl p281), trivial, trivial⟩, trivial⟩, trivial⟩, trivial⟩⟩⟩, ⟨(fun x h => by injection h with h; subst h; exact .inl p13), ⟨(fun x h => by cases h), ⟨(fun x h => by injection h with h; subst h; exact .inl p37), ⟨(fun x h => by cases h), ⟨(fun x h => by injection h with h; subst h; exact .inl p133), trivial, trivial⟩, trivial⟩, ⟨(fun x h => by cases h), ⟨(fun x h => by injection h with h; subst h; exact .inl p165), ⟨(fun x h => by injection h with h; subst h; exact .inl p293), trivial, trivial⟩, trivial⟩, ⟨(fun x h => by injection h with h; subst h; exact .inl p229), trivial, trivial⟩⟩⟩, ⟨(fun x h => by cases h), ⟨(fun x h => by injection h with h; subst h; exact .inl p85), ⟨(fun x h => by injection h with h; subst h; exact .inl p149), ⟨(fun x h => by injection h with h; subst h; exact .inl p277), trivial, trivial⟩, trivial⟩, trivial⟩, trivial⟩⟩, ⟨(fun x h => by injection h with h; subst h; exact .inl p29), ⟨(fun x h => by injection h with h; subst h; exact .inl p45), ⟨(fun x h => by injection h with h; subst h; exact .inl p77), ⟨(fun x h => by injection h with h; subst h; exact .inl p141), trivial, trivial⟩, trivial⟩, ⟨(fun x h => by cases h), ⟨(fun x h => by injection h with h; subst h; exact .inl p173), trivial, trivial⟩, trivial⟩⟩, ⟨(fun x h => by injection h with h; subst h; exact .inl p61), ⟨(fun x h => by injection h with h; subst h; exact .inl p93), trivial, trivial⟩, ⟨(fun x h => by injection h with h; subst h; exact .inl p125), trivial, trivial⟩⟩⟩⟩⟩⟩, ⟨(fun x h => by cases h), ⟨(fun x h => by injection h with h; subst h; exact .inl p4), ⟨(fun x h => by injection h with h; subst h; exact .inl p8), ⟨(fun x h => by injection h with h; subst h; exact .inl p16), ⟨(fun x h => by injection h with h; subst h; exact .inl p32), ⟨(fun x h => by injection h with h; subst h; exact .inl p64), ⟨(fun x h => by injection h with h; subst h; exact .inl p128), ⟨(fun x h => by injection h with h; subst h; exact .inl p256), trivial, trivial⟩, trivial⟩, trivial⟩, ⟨(fun x h => by injection h with h; subst h; exact .inl p96), ⟨(fun x h => by cases h), ⟨(fun x h => by injection h with h; subst h; exact .inl p288), trivial, trivial⟩, trivial⟩, ⟨(fun x h => by injection h with h; subst h; exact .inl p224), trivial, trivial⟩⟩⟩, ⟨(fun x h => by injection h with h; subst h; exact .inl p48), ⟨(fun x h => by injection h with h; subst h; exact .inl p80), ⟨(fun x h => by injection h with h; subst h; exact .inl p144), trivial, trivial⟩, trivial⟩, ⟨(fun x h => by cases h), ⟨(fun x h => by cases h), ⟨(fun x h => by injection h with h; subst h; exact .inl p304), trivial, trivial⟩, trivial⟩, trivial⟩⟩⟩, ⟨(fun x h => by injection h with h; subst h; exact .inl p24), ⟨(fun x h => by injection h with h; subst h; exact .inl p40), ⟨(fun x h => by cases h), ⟨(fun x h => by injection h with h; subst h; exact .inl p136), ⟨(fun x h => by injection h with h; subst h; exact .inl p264), trivial, trivial⟩, trivial⟩, trivial⟩, ⟨(fun x h => by injection h with h; subst h; exact .inl p104), ⟨(fun x h => by injection h with h; subst h; exact .inl p168), ⟨(fun x h => by injection h with h; subst h; exact .inl p296), trivial, trivial⟩, trivial⟩, trivial⟩⟩, ⟨(fun x h => by injection h with h; subst h; exact .inl p56), ⟨(fun x h => by cases h), ⟨(fun x h => by injection h with h; subst h; exact .inl p152), ⟨(fun x h => by injection h with h; subst h; exact .inl p280), trivial, trivial⟩, trivial⟩, trivial⟩, ⟨(fun x h => by injection h with h; subst h; exact .inl p120), trivial, trivial⟩⟩⟩⟩, ⟨(fun x h => by injection h with h; subst h; exact .inl p12), ⟨(fun x h => by injection h with h; subst h; exact .inl p20), ⟨(fun x h => by cases h), ⟨(fun x h => by injection h with h; subst h; exact .inl p68), trivial, trivial⟩, ⟨(fun x h => by injection h with h; subst h; exact .inl p100), trivial, trivial⟩⟩, ⟨(fun x h => by injection h with h; subst h; exact .inl p52), ⟨(fun x h => by cases h), ⟨(fun x h => by cases h), ⟨(fun x h => by injection h with h; subst h; exact .inl p276), trivial, trivial⟩, trivial⟩, trivial⟩, ⟨(fun x h => by cases h), ⟨(fun x h => by cases h), ⟨(fun x h => by injection h with h; subst h; exact .inl p308), trivial, trivial⟩, trivial⟩, ⟨(fun x h => by injection h with h; subst h; exact .inl p244), trivial, trivial⟩⟩⟩⟩, ⟨(fun x h => by cases h), ⟨(fun x h => by injection h with h; subst h; exact .inl p44), ⟨(fun x h => by injection h with h; subst h; exact .inl p76), ⟨(fun x h => by injection h with h; subst h; exact .inl p140), trivial, trivial⟩, trivial⟩, ⟨(fun x h => by cases h), ⟨(fun x h => by injection h with h; subst h; exact .inl p172), trivial, trivial⟩, trivial⟩⟩, ⟨(fun x h => by injection h with h; subst h; exact .inl p60), ⟨(fun x h => by injection h with h; subst h; exact .inl p92), trivial, trivial⟩, ⟨(fun x h => by injection h with h; subst h; exact .inl p124), trivial, trivial⟩⟩⟩⟩⟩, ⟨(fun x h => by injection h with h; subst h; exact .inl p6), ⟨(fun x h => by injection h with h; subst h; exact .inl p10), ⟨(fun x h => by cases h), ⟨(fun x h => by injection h with h; subst h; exact .inl p34), ⟨(fun x h => by cases h), ⟨(fun x h => by injection h with h; subst h; exact .inl p130), trivial, trivial⟩, ⟨(fun x h => by injection h with h; subst h; exact .inl p194), trivial, trivial⟩⟩, ⟨(fun x h => by injection h with h; subst h; exact .inl p98), trivial, trivial⟩⟩, ⟨(fun x h => by cases h), ⟨(fun x h => by injection h with h; subst h; exact .inl p82), ⟨(fun x h => by cases h), ⟨(fun x h => by injection h with h; subst h; exact .inl p274), trivial, trivial⟩, trivial⟩, trivial⟩, trivial⟩⟩, ⟨(fun x h => by cases h), ⟨(fun x h => by injection h with h; subst h; exact .inl p42), ⟨(fun x h => by cases h), ⟨(fun x h => by injection h with h; subst h; exact .inl p138), trivial, trivial⟩, trivial⟩, ⟨(fun x h => by injection h with h; subst h; exact .inl p106), ⟨(fun x h => by cases h), ⟨(fun x h => by injection h with h; subst h; exact .inl p298), trivial, trivial⟩, trivial⟩, ⟨(fun x h => by injection h with h; subst h; exact .inl p234), trivial, trivial⟩⟩⟩, ⟨(fun x h => by injection h with h; subst h; exact .inl p58), ⟨(fun x h => by injection h with h; subst h; exact .inl p90), ⟨(fun x h => by injection h with h; subst h; exact .inl p154), ⟨(fun x h => by injection h with h; subst h; exact .inl p282), trivial, trivial⟩, trivial⟩, ⟨(fun x h => by injection h with h; subst h; exact .inl p218), trivial, trivial⟩⟩, trivial⟩⟩⟩, ⟨(fun x h => by injection h with h; subst h; exact .inl p14), ⟨(fun x h => by injection h with h; subst h; exact .inl p22), ⟨(fun x h => by injection h with h; subst h; exact .inl p38), ⟨(fun x h => by injection h with h; subst h; exact .inl p70), trivial, trivial⟩, ⟨(fun x h => by injection h with h; subst h; exact .inl p102), ⟨(fun x h => by injection h with h; subst h; exact .inl p166), ⟨(fun x h => by injection h with h; subst h; exact .inl p294), trivial, trivial⟩, trivial⟩, trivial⟩⟩, ⟨(fun x h => by injection h with h; subst h; exact .inl p54), trivial, ⟨(fun x h => by cases h), ⟨(fun x h => by injection h with h; subst h; exact .inl p182), trivial, trivial⟩, trivial⟩⟩⟩, ⟨(fun x h => by injection h with h; subst h; exact .inl p30), ⟨(fun x h => by injection h with h; subst h; exact .inl p46), ⟨(fun x h => by cases h), ⟨(fun x h => by injection h with h; subst h; exact .inl p142), ⟨(fun x h => by injection h with h; subst h; exact .inl p270), trivial, trivial⟩, trivial⟩, trivial⟩, trivial⟩, ⟨(fun x h => by injection h with h; subst h; exact .inl p62), ⟨(fun x h => by injection h with h; subst h; exact .inl p94), trivial, trivial⟩, trivial⟩⟩⟩⟩⟩⟩
theorem dp_ok : DOk Tryz.prog DP := dOk (fun f df h => allT_get tab _ tab_ok f df h) (fun f _ => by
  show KnownOk Tryz.prog f (known f)
  unfold known
  split
  · exact k26
  · exact k28
  · exact k47
  · exact k69
  · exact k105
  · exact k146
  · exact k174
  · exact k175
  · exact known_none _ _)
theorem dp_sound {n f : Nat} {dargs : List DV} {ρ : Mp} {s : St} {w : World} {args : Array Value} {out : Out} {s' : St}
    (h : runF DP n f dargs s = some (out, s')) (hR : R Tryz.prog ρ s w) (hV : VRs ρ dargs args.toList) : UponCall Tryz.prog ρ s w out s' f args := run_sound mixed dp_ok h hR hV
/-- do cells read as these bytes? -/
def isBytes : List DV → List Nat → Bool
  | [], [] => true
  | .int .u8 (.ofNat a) :: l, b :: r => bif Nat.beq a b then isBytes l r else false
  | _, _ => false
def blockIs (s : St) (g t : Nat) (l : List Nat) : Bool := match getB s g with
  | some (.cells cs e _) => Nat.beq e t && isBytes cs l
  | _ => false
/-- true, and the variables are as they were -/
def isT (v : DV) (s : St) : Bool := match v with
  | .bool b => bif b then blockIs s 0 168 ascN && (blockIs s 3 168 fstN && blockIs s 4 215 accN) else false
  | _ => false
end Ck
end Go.D
set_option maxRecDepth 1000000
namespace Go.D
open Go Go.Proofs
namespace Ck
def d3a (r : Nat) : DFunc := ⟨[.tmp 4],
 .seq (.region [o 4 (.move (c (.bool false)))])
 (.seq (.seq (.region [o 15 (.call 4 []),o 16 (.un .not (t 15))])
 (.cond (t 16)
 (.seq (.region [o 4 (.move (c (.bool false)))])
 (.ret))
 (.skip)))
 (.seq (.region [o 17 (.buildSlice 9 1 8 [(.str [])] [(0,1,(c (.str [97]))),(1,1,(c (.str [105,102]))),(2,1,(c (.str [99,111,110,115,116,114,117,99,116,111,114]))),(3,1,(c (.str [95,95,112,114,111,116,111,95,95]))),(4,1,(c (.str [230,151,165]))),(5,1,(c (.str [97,32,98]))),(6,1,(c (.str [49]))),(7,1,(c (.str [])))]),o 18 (.move (t 0)),o 19 (.convInt .u64 (t 18)),o 20 (.move (c (.int .u64 (.ofNat r)))),o 21 (.indexSl 1 (t 17) (t 20)),o 22 (.load false 1 (t 21)),o 5 (.move (t 22))])
 (.seq (.seq (.region [o 23 (.move (t 5)),o 24 (.bin .eql 0 true (t 23) (c (.str [97,32,98]))),o 25 (.move (t 24)),⟨some 26,.move (t 5),some (25,false)⟩,⟨some 27,.bin .eql 0 true (t 26) (c (.str [49])),some (25,false)⟩,o 28 (.pick (t 25) (c (.bool true)) (t 27)),o 29 (.move (t 28)),⟨some 30,.move (t 5),some (29,false)⟩,⟨some 31,.bin .eql 0 true (t 30) (c (.str [])),some (29,false)⟩,o 32 (.pick (t 29) (c (.bool true)) (t 31))])
 (.cond (t 32)
 (.seq (.region [o 34 (.move (t 5)),o 35 (.bin .add 0 true (c (.str [40,123,39])) (t 34)),o 36 (.bin .add 0 true (t 35) (c (.str [39,58,32,49,125,41]))),o 37 (.call 5 [(t 36)]),o 33 (.move (t 37)),o 38 (.extract (t 33) 0),o 39 (.extract (t 33) 1),o 6 (.alloc 27 5 [(ni 0),(.str []),sn,(ni 0),(ni 0)]),u (.store 5 (t 6) (t 38)),o 7 (.move (t 39))])
 (.seq (.region [o 40 (.move (t 7)),o 41 (.move (t 40)),⟨some 42,.offset 2 (t 6),some (41,true)⟩,⟨some 43,.load false 1 (t 42),some (41,true)⟩,⟨some 44,.indexSl 5 (t 43) (c (ni 0)),some (41,true)⟩,⟨some 45,.offset 2 (t 44),some (41,true)⟩,⟨some 46,.load false 1 (t 45),some (41,true)⟩,⟨some 47,.indexSl 5 (t 46) (c (ni 0)),some (41,true)⟩,⟨some 48,.offset 0 (t 47),some (41,true)⟩,⟨some 49,.load false 1 (t 48),some (41,true)⟩,⟨some 50,.bin .eql 0 true (t 49) (c (ni 4)),some (41,true)⟩,o 51 (.pick (t 41) (t 50) (c (.bool false))),o 4 (.move (t 51))])
 (.ret)))
 (.skip)))
 (.seq (.region [o 52 (.move (t 1)),o 53 (.convInt .u64 (t 52)),o 54 (.bin .rem 0 true (t 53) (c (.int .u64 4))),o 8 (.alloc 24 1 [(.int .u64 0)]),u (.store 1 (t 8) (t 54))])
 (.seq (.region [o 55 (.func (.func 6) [] [(t 8)]),o 9 (.move (t 55))])
 (.seq (.region [o 57 (.move (t 9)),o 58 (.move (t 5)),o 59 (.bin .add 0 true (c (.str [39])) (t 58)),o 60 (.bin .add 0 true (t 59) (c (.str [39]))),o 61 (.callV (t 57) [(t 60)]),o 62 (.call 5 [(t 61)]),o 56 (.move (t 62)),o 63 (.extract (t 56) 0),o 64 (.extract (t 56) 1),o 10 (.alloc 27 5 [(ni 0),(.str []),sn,(ni 0),(ni 0)]),u (.store 5 (t 10) (t 63)),o 11 (.move (t 64))])
 (.seq (.region [o 66 (.move (t 9)),o 67 (.move (t 5)),o 68 (.callV (t 66) [(t 67)]),o 69 (.call 5 [(t 68)]),o 65 (.move (t 69)),o 70 (.extract (t 65) 0),o 71 (.extract (t 65) 1),o 12 (.alloc 27 5 [(ni 0),(.str []),sn,(ni 0),(ni 0)]),u (.store 5 (t 12) (t 70)),o 13 (.move (t 71))])
 (.seq (.region [o 72 (.move (t 5)),o 73 (.bin .eql 0 true (t 72) (c (.str [95,95,112,114,111,116,111,95,95]))),o 74 (.move (t 73)),⟨some 75,.load false 1 (t 8),some (74,true)⟩,⟨some 76,.bin .eql 0 true (t 75) (c (.int .u64 0)),some (74,true)⟩,o 77 (.pick (t 74) (t 76) (c (.bool false))),o 78 (.move (t 77)),⟨some 79,.move (t 5),some (78,false)⟩,⟨some 80,.bin .eql 0 true (t 79) (c (.str [99,111,110,115,116,114,117,99,116,111,114])),some (78,false)⟩,⟨some 81,.move (t 80),some (78,false)⟩,⟨some 82,.load false 1 (t 8),some (81,true)⟩,⟨some 83,.bin .eql 0 true (t 82) (c (.int .u64 2)),some (81,true)⟩,⟨some 84,.pick (t 81) (t 83) (c (.bool false)),some (78,false)⟩,o 85 (.pick (t 78) (c (.bool true)) (t 84)),o 86 (.un .not (t 85)),o 14 (.move (t 86))])
 (.seq (.region [o 87 (.move (t 11)),o 88 (.move (t 87)),⟨some 89,.move (t 13),some (88,true)⟩,o 90 (.pick (t 88) (t 89) (c (.bool false))),o 91 (.move (t 90)),⟨some 92,.load true 5 (t 10),some (91,true)⟩,⟨some 93,.load true 5 (t 12),some (91,true)⟩,⟨some 94,.call 7 [(t 92),(t 93)],some (91,true)⟩,⟨some 95,.move (t 14),some (91,true)⟩,⟨some 96,.bin .eql 1 false (t 94) (t 95),some (91,true)⟩,o 97 (.pick (t 91) (t 96) (c (.bool false))),o 4 (.move (t 97))])
 (.ret)))))))))),
 none⟩
def d3p (r q : Nat) : DFunc := ⟨[.tmp 4],
 .seq (.region [o 4 (.move (c (.bool false)))])
 (.seq (.seq (.region [o 15 (.call 4 []),o 16 (.un .not (t 15))])
 (.cond (t 16)
 (.seq (.region [o 4 (.move (c (.bool false)))])
 (.ret))
 (.skip)))
 (.seq (.region [o 17 (.buildSlice 9 1 8 [(.str [])] [(0,1,(c (.str [97]))),(1,1,(c (.str [105,102]))),(2,1,(c (.str [99,111,110,115,116,114,117,99,116,111,114]))),(3,1,(c (.str [95,95,112,114,111,116,111,95,95]))),(4,1,(c (.str [230,151,165]))),(5,1,(c (.str [97,32,98]))),(6,1,(c (.str [49]))),(7,1,(c (.str [])))]),o 18 (.move (t 0)),o 19 (.convInt .u64 (t 18)),o 20 (.move (c (.int .u64 (.ofNat r)))),o 21 (.indexSl 1 (t 17) (t 20)),o 22 (.load false 1 (t 21)),o 5 (.move (t 22))])
 (.seq (.seq (.region [o 23 (.move (t 5)),o 24 (.bin .eql 0 true (t 23) (c (.str [97,32,98]))),o 25 (.move (t 24)),⟨some 26,.move (t 5),some (25,false)⟩,⟨some 27,.bin .eql 0 true (t 26) (c (.str [49])),some (25,false)⟩,o 28 (.pick (t 25) (c (.bool true)) (t 27)),o 29 (.move (t 28)),⟨some 30,.move (t 5),some (29,false)⟩,⟨some 31,.bin .eql 0 true (t 30) (c (.str [])),some (29,false)⟩,o 32 (.pick (t 29) (c (.bool true)) (t 31))])
 (.cond (t 32)
 (.seq (.region [o 34 (.move (t 5)),o 35 (.bin .add 0 true (c (.str [40,123,39])) (t 34)),o 36 (.bin .add 0 true (t 35) (c (.str [39,58,32,49,125,41]))),o 37 (.call 5 [(t 36)]),o 33 (.move (t 37)),o 38 (.extract (t 33) 0),o 39 (.extract (t 33) 1),o 6 (.alloc 27 5 [(ni 0),(.str []),sn,(ni 0),(ni 0)]),u (.store 5 (t 6) (t 38)),o 7 (.move (t 39))])
 (.seq (.region [o 40 (.move (t 7)),o 41 (.move (t 40)),⟨some 42,.offset 2 (t 6),some (41,true)⟩,⟨some 43,.load false 1 (t 42),some (41,true)⟩,⟨some 44,.indexSl 5 (t 43) (c (ni 0)),some (41,true)⟩,⟨some 45,.offset 2 (t 44),some (41,true)⟩,⟨some 46,.load false 1 (t 45),some (41,true)⟩,⟨some 47,.indexSl 5 (t 46) (c (ni 0)),some (41,true)⟩,⟨some 48,.offset 0 (t 47),some (41,true)⟩,⟨some 49,.load false 1 (t 48),some (41,true)⟩,⟨some 50,.bin .eql 0 true (t 49) (c (ni 4)),some (41,true)⟩,o 51 (.pick (t 41) (t 50) (c (.bool false))),o 4 (.move (t 51))])
 (.ret)))
 (.skip)))
 (.seq (.region [o 52 (.move (t 1)),o 53 (.convInt .u64 (t 52)),o 54 (.move (c (.int .u64 (.ofNat q)))),o 8 (.alloc 24 1 [(.int .u64 0)]),u (.store 1 (t 8) (t 54))])
 (.seq (.region [o 55 (.func (.func 6) [] [(t 8)]),o 9 (.move (t 55))])
 (.seq (.region [o 57 (.move (t 9)),o 58 (.move (t 5)),o 59 (.bin .add 0 true (c (.str [39])) (t 58)),o 60 (.bin .add 0 true (t 59) (c (.str [39]))),o 61 (.callV (t 57) [(t 60)]),o 62 (.call 5 [(t 61)]),o 56 (.move (t 62)),o 63 (.extract (t 56) 0),o 64 (.extract (t 56) 1),o 10 (.alloc 27 5 [(ni 0),(.str []),sn,(ni 0),(ni 0)]),u (.store 5 (t 10) (t 63)),o 11 (.move (t 64))])
 (.seq (.region [o 66 (.move (t 9)),o 67 (.move (t 5)),o 68 (.callV (t 66) [(t 67)]),o 69 (.call 5 [(t 68)]),o 65 (.move (t 69)),o 70 (.extract (t 65) 0),o 71 (.extract (t 65) 1),o 12 (.alloc 27 5 [(ni 0),(.str []),sn,(ni 0),(ni 0)]),u (.store 5 (t 12) (t 70)),o 13 (.move (t 71))])
 (.seq (.region [o 72 (.move (t 5)),o 73 (.bin .eql 0 true (t 72) (c (.str [95,95,112,114,111,116,111,95,95]))),o 74 (.move (t 73)),⟨some 75,.load false 1 (t 8),some (74,true)⟩,⟨some 76,.bin .eql 0 true (t 75) (c (.int .u64 0)),some (74,true)⟩,o 77 (.pick (t 74) (t 76) (c (.bool false))),o 78 (.move (t 77)),⟨some 79,.move (t 5),some (78,false)⟩,⟨some 80,.bin .eql 0 true (t 79) (c (.str [99,111,110,115,116,114,117,99,116,111,114])),some (78,false)⟩,⟨some 81,.move (t 80),some (78,false)⟩,⟨some 82,.load false 1 (t 8),some (81,true)⟩,⟨some 83,.bin .eql 0 true (t 82) (c (.int .u64 2)),some (81,true)⟩,⟨some 84,.pick (t 81) (t 83) (c (.bool false)),some (78,false)⟩,o 85 (.pick (t 78) (c (.bool true)) (t 84)),o 86 (.un .not (t 85)),o 14 (.move (t 86))])
 (.seq (.region [o 87 (.move (t 11)),o 88 (.move (t 87)),⟨some 89,.move (t 13),some (88,true)⟩,o 90 (.pick (t 88) (t 89) (c (.bool false))),o 91 (.move (t 90)),⟨some 92,.load true 5 (t 10),some (91,true)⟩,⟨some 93,.load true 5 (t 12),some (91,true)⟩,⟨some 94,.call 7 [(t 92),(t 93)],some (91,true)⟩,⟨some 95,.move (t 14),some (91,true)⟩,⟨some 96,.bin .eql 1 false (t 94) (t 95),some (91,true)⟩,o 97 (.pick (t 91) (t 96) (c (.bool false))),o 4 (.move (t 97))])
 (.ret)))))))))),
 none⟩
theorem pin1 (r : Nat) : Pin 0 8 r d3.body (d3a r).body :=
  .seq (.refl (by kernel_rfl)) (.seq (.refl (by kernel_rfl)) (.seq (.region (.same (by kernel_rfl) (.hit (by decide) (by decide) (by decide) (.refl (by kernel_rfl))))) (.refl (by kernel_rfl))))
theorem pin2 (r q : Nat) : Pin 1 4 q (d3a r).body (d3p r q).body :=
  .seq (.refl (by kernel_rfl)) (.seq (.refl (by kernel_rfl)) (.seq (.refl (by kernel_rfl)) (.seq (.refl (by kernel_rfl)) (.seq (.region (.hit (by decide) (by decide) (by decide) (.refl (by kernel_rfl)))) (.refl (by kernel_rfl))))))
/-- does it answer true, its two numbers known? -/
def Good (r q : Nat) : Prop := ∀ n m : Int, answersB 1000000 DP 100000 (d3p r q) [.int .i64 n, .int .i64 m] s0 isT = true
theorem keys_of (h : ∀ r q, r < 8 → q < 4 → Good r q) (n m : Int) : ∃ k v s', runF DP k 3 [.int .i64 n, .int .i64 m] s0 = some (.ret v, s') ∧ isT v s' = true := by
  obtain ⟨r, hr, er⟩ := restOf_lt n 8 (by decide)
  obtain ⟨q, hq, eq⟩ := restOf_lt m 4 (by decide)
  refine answersB_ok (f := 3) (df := d3) (df' := d3p r q) (by kernel_rfl) rfl rfl rfl (fun k => ?_) (h r q hr hq n m)
  have h1 := (pin_eq (P := DP) (j := .i64) er (pin1 r) k (envOf [.int .i64 n, .int .i64 m] 0 .leaf) s0 (by rw [egt_envOf]; rfl)).1
  have h2 := (pin_eq (P := DP) (j := .i64) eq (pin2 r q) k (envOf [.int .i64 n, .int .i64 m] 0 .leaf) s0 (by rw [egt_envOf]; rfl)).1
  rw [h1, h2]
end Ck
end Go.D
