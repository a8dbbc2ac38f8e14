/-
  What the row's condition gives, and what the call gives back.
-/
import Derived.Test.YtbecblfbikahkaaGreatDoorCc
import Derived.Test.YtbecblfbikahkaaGreatDoorRows
import Derived.ProofKit
import Derived.OpenShut
import Derived.Lib.LaidTab
set_option linter.all false
set_option linter.deprecated false
set_option maxRecDepth 1000000
namespace Go.D
open Go Go.Proofs Go.Proofs.YtbecblfbikahkaaGreatDoor
namespace Ck
def vals (l : List Nat) : List Value := l.map fun n => Value.int .u8 (.ofNat n)
theorem bytesV_rel (ρ : Mp) : ∀ l : List Nat, VRs ρ (bytesV l) (vals l)
  | [] => .nil
  | n :: l => .cons (.int _ _) (bytesV_rel ρ l)
theorem bytesV_len : ∀ l : List Nat, (bytesV l).length = l.length
  | [] => rfl
  | _ :: l => congrArg Nat.succ (bytesV_len l)
theorem isBytes_nil (d : DV) (cs : List DV) : isBytes (d :: cs) [] = false := by
  cases d with
  | int k n => cases k <;> cases n <;> rfl
  | _ => rfl
theorem isBytes_cons {d : DV} {cs : List DV} {b : Nat} {r : List Nat} (h : isBytes (d :: cs) (b :: r) = true) : d = .int .u8 (.ofNat b) ∧ isBytes cs r = true := by
  match d, h with
  | .int .u8 (.ofNat a), h =>
    have h2 : (bif Nat.beq a b then isBytes cs r else false) = true := h
    cases hb : Nat.beq a b with
    | true => rw [hb] at h2; exact ⟨by rw [Nat.eq_of_beq_eq_true hb], h2⟩
    | false => rw [hb] at h2; cases h2
theorem isBytes_rel {ρ : Mp} : ∀ {cs : List DV} {l : List Nat} {vs : List Value}, isBytes cs l = true → VRs ρ cs vs → vs = vals l ∧ cs.length = l.length
  | [], [], _, _, h => by cases h; exact ⟨rfl, rfl⟩
  | [], _ :: _, _, h, _ => by unfold isBytes at h; cases h
  | d :: cs, [], _, h, _ => by rw [isBytes_nil] at h; cases h
  | d :: cs, b :: r, vs, h, hv => by
    obtain ⟨e0, h'⟩ := isBytes_cons h
    subst e0
    cases hv with
    | cons h1 t =>
      obtain ⟨e1, e2⟩ := isBytes_rel h' t
      have e3 := int_of' h1
      exact ⟨by rw [e1, e3]; rfl, by simp [e2]⟩

/-- how a variable's block stands -/
def BlockOf (W : World) (g t : Nat) (l : List Nat) : Prop := ∃ rc : Array Value, W.heap[g]? = some (.cells rc t (0, 0)) ∧ rc.toList = vals l

theorem blockIs_of {s : St} {g t : Nat} {l : List Nat} (h : blockIs s g t l = true) : ∃ cs n, getB s g = some (.cells cs t n) ∧ isBytes cs l = true := by
  unfold blockIs at h
  split at h
  · rename_i cs e n hg
    simp only [Bool.and_eq_true] at h
    have := Nat.eq_of_beq_eq_true h.1; subst this
    exact ⟨cs, n, hg, h.2⟩
  · cases h

theorem block_end {ρ : Mp} {s : St} {w : World} {g t : Nat} {l : List Nat} (hR : R Tryz.prog ρ s w) (hg : g < Tryz.prog.globals.size) (h : blockIs s g t l = true) (hl : ∀ x, ρ g = some x → x.lim = l.length) : BlockOf w g t l := by
  obtain ⟨cs, n, h1, h2⟩ := blockIs_of h
  obtain ⟨rc, h3⟩ := hR.fix g cs t n hg h1
  obtain ⟨x, e1, e2, e3⟩ := hR.glob g hg
  obtain ⟨rc', lo, hi, k1, k2, _, _, k5, k6⟩ := hR.obj g x _ e1 h1
  rw [e2, h3] at k1
  injection k1 with k1; injection k1 with k1 _ _; subst k1
  obtain ⟨q1, q2⟩ := isBytes_rel h2 k6
  refine ⟨rc, h3, ?_⟩
  rw [e3, List.drop_zero, q2, ← hl x e1, ← k2, ← Array.length_toList, List.take_length] at q1
  exact q1

def lim0 (b : Nat) : Nat := bif Nat.beq b 4 then 32 else 256
def rho0 : Mp := fun b => bif Nat.ble (Nat.succ b) 8 then some ⟨b, 0, lim0 b, lim0 b⟩ else none
theorem rho0_of {b : Nat} {x : BI} (h : rho0 b = some x) : b < 8 ∧ x = ⟨b, 0, lim0 b, lim0 b⟩ := by
  unfold rho0 at h
  rcases Bool.eq_false_or_eq_true (Nat.ble (Nat.succ b) 8) with hb | hb
  · rw [hb] at h; injection h with h; exact ⟨Nat.le_of_ble_eq_true hb, h.symm⟩
  · rw [hb] at h; cases h
theorem rho0_at {b : Nat} (h : b < 8) : rho0 b = some ⟨b, 0, lim0 b, lim0 b⟩ := by
  unfold rho0
  rw [show Nat.ble (Nat.succ b) 8 = true from Nat.ble_eq_true_of_le h]; rfl
theorem getB_s0 (b : Nat) : getB s0 b = if b = 4 then some (.cells (bytesV accN) 215 32) else if b = 3 then some (.cells (bytesV fstN) 168 256) else if b = 0 then some (.cells (bytesV ascN) 168 256) else none := by
  show Tr.get (((Tr.leaf.put 0 _).put 3 _).put 4 _) b = _
  rw [Tr.get_put, Tr.get_put, Tr.get_put]; rfl
theorem nglob : Tryz.prog.globals.size = 8 := by kernel_rfl

theorem start_obj {W : World} {b t n : Nat} {l : List Nat} (h : BlockOf W b t l) (hb : b < 8) (hn : n = lim0 b) (hl : l.length = lim0 b) : ObjR rho0 ⟨b, 0, lim0 b, lim0 b⟩ W (.cells (bytesV l) t n) := by
  obtain ⟨rc, h1, h2⟩ := h
  have h3 : rc.size = lim0 b := by rw [← hl, ← Array.length_toList, h2]; simp [vals]
  refine ⟨rc, 0, 0, h1, h3, fun i _ h => by omega, hn, by rw [bytesV_len, hl]; simp, ?_⟩
  rw [List.drop_zero, h2, bytesV_len, List.take_of_length_le (by simp [vals])]
  exact bytesV_rel _ _

theorem start_R {W : World} (h0 : BlockOf W 0 168 ascN) (h3 : BlockOf W 3 168 fstN) (h4 : BlockOf W 4 215 accN) (hsz : 8 ≤ W.heap.size) : R Tryz.prog rho0 s0 W where
  fresh := fun b x h => (rho0_of h).1
  void := fun b hb => by
    have hb : 8 ≤ b := hb
    rw [getB_s0, if_neg (by omega), if_neg (by omega), if_neg (by omega)]
  there := fun b x h => by obtain ⟨h1, rfl⟩ := rho0_of h; show b < _; omega
  apart := fun b c x y h1 h2 hne _ _ => by
    obtain ⟨_, rfl⟩ := rho0_of h1; obtain ⟨_, rfl⟩ := rho0_of h2; exact hne
  obj := fun b x o h1 h2 => by
    obtain ⟨_, rfl⟩ := rho0_of h1
    rw [getB_s0] at h2
    split at h2
    · rename_i e; subst e; injection h2 with h2; subst h2; exact start_obj h4 (by omega) rfl rfl
    · split at h2
      · rename_i e; subst e; injection h2 with h2; subst h2; exact start_obj h3 (by omega) rfl rfl
      · split at h2
        · rename_i e; subst e; injection h2 with h2; subst h2; exact start_obj h0 (by omega) rfl rfl
        · cases h2
  glob := fun g hg => by rw [nglob] at hg; exact ⟨_, rho0_at hg, rfl, rfl⟩
  lone := fun b x o h1 h2 => by
    rw [getB_s0] at h2
    split at h2
    · injection h2 with h2; subst h2; intro h; exact absurd h (by rw [show selfC Tryz.prog 215 = false by kernel_rfl]; exact Bool.false_ne_true)
    · split at h2
      · injection h2 with h2; subst h2; intro h; exact absurd h (by rw [show selfC Tryz.prog 168 = false by kernel_rfl]; exact Bool.false_ne_true)
      · split at h2
        · injection h2 with h2; subst h2; intro h; exact absurd h (by rw [show selfC Tryz.prog 168 = false by kernel_rfl]; exact Bool.false_ne_true)
        · cases h2
  fix := fun g cs e n hg h2 => by
    rw [getB_s0] at h2
    split at h2
    · rename_i hb; subst hb; injection h2 with h2; injection h2 with _ he _; subst he; obtain ⟨rc, k, _⟩ := h4; exact ⟨rc, k⟩
    · split at h2
      · rename_i hb; subst hb; injection h2 with h2; injection h2 with _ he _; subst he; obtain ⟨rc, k, _⟩ := h3; exact ⟨rc, k⟩
      · split at h2
        · rename_i hb; subst hb; injection h2 with h2; injection h2 with _ he _; subst he; obtain ⟨rc, k, _⟩ := h0; exact ⟨rc, k⟩
        · cases h2

theorem kept_block {W W' : World} {g t : Nat} {l : List Nat} (h : BlockOf W g t l) (h' : BlockOf W' g t l) : W'.heap[g]? = W.heap[g]? := by
  obtain ⟨rc, h1, h2⟩ := h; obtain ⟨rc', h3, h4⟩ := h'
  have e : rc' = rc := Array.toList_inj.1 (by rw [h4, h2])
  rw [h1, h3, e]

theorem keptBut_of_same {w w' : World} {may : MemPlace → Prop} (h1 : w'.os = w.os) (h2 : w'.output = w.output) (h3 : ∀ i : Nat, i < w.heap.size → w'.heap[i]? = w.heap[i]?) : w.keptBut w' may := by
  refine ⟨h1, h2, fun i hi => ?_⟩
  rw [h3 i hi]
  cases w.heap[i]? with
  | none => rfl
  | some o => cases o <;> first | rfl | exact ⟨rfl, rfl, rfl, fun _ _ => rfl⟩ | exact .inr ⟨rfl, rfl⟩

theorem keys_calls (all : ∀ r q, r < 8 → q < 4 → Ck.Good r q) (n m : Int) {W : World} (h0 : BlockOf W 0 168 ascN) (h3 : BlockOf W 3 168 fstN) (h4 : BlockOf W 4 215 accN) (hsz : 8 ≤ W.heap.size) :
    Calls Tryz.prog 3 #[.int .i64 n, .int .i64 m] W fun e W' => e = .returned (.bool true) ∧ W'.os = W.os ∧ W'.output = W.output ∧ ∀ i : Nat, i < W.heap.size → W'.heap[i]? = W.heap[i]? := by
  obtain ⟨k, v, s', hrun, hT⟩ := keys_of all n m
  have hR := start_R h0 h3 h4 hsz
  have hU := dp_sound hrun hR (args := #[.int .i64 n, .int .i64 m]) (.cons (.int _ _) (.cons (.int _ _) .nil))
  have hen := run_enter (w := W) Tryz.func3 (by kernel_rfl) (by kernel_rfl) #[.int .i64 n, .int .i64 m]
  rcases hU with ⟨_, hc⟩ | ⟨v', w', hv, _⟩
  · refine hc.mono fun e W' he => ?_
    cases e with
    | returned v' =>
      obtain ⟨dv, ρ', ho, hvr, hw⟩ := he
      injection ho with ho; subst ho
      unfold isT at hT
      split at hT
      · rename_i b
        cases b with
        | false => cases hT
        | true =>
          have hT : (blockIs s' 0 168 ascN && (blockIs s' 3 168 fstN && blockIs s' 4 215 accN)) = true := hT
          simp only [Bool.and_eq_true] at hT
          obtain ⟨b0, b3, b4⟩ := hT
          have hvt : v' = .bool true := by cases hvr; rfl
          refine ⟨by rw [hvt], hw.fr.os, hw.fr.output, fun i hi => ?_⟩
          have hle : ∀ b, b < 8 → ∀ x, ρ' b = some x → x.lim = lim0 b := fun b hb x hx => by
            have := hw.le b _ (rho0_at hb)
            rw [hx] at this; injection this with this; rw [this]
          have n0 : 0 < Tryz.prog.globals.size := by rw [nglob]; omega
          have n3 : 3 < Tryz.prog.globals.size := by rw [nglob]; omega
          have n4 : 4 < Tryz.prog.globals.size := by rw [nglob]; omega
          by_cases i0 : i = 0
          · subst i0; exact kept_block h0 (block_end hw.rel n0 b0 (fun x hx => hle 0 (by omega) x hx))
          by_cases i3 : i = 3
          · subst i3; exact kept_block h3 (block_end hw.rel n3 b3 (fun x hx => hle 3 (by omega) x hx))
          by_cases i4 : i = 4
          · subst i4; exact kept_block h4 (block_end hw.rel n4 b4 (fun x hx => hle 4 (by omega) x hx))
          refine hw.fr.block i hi fun b x hb hx hl => ?_
          obtain ⟨_, rfl⟩ := rho0_of hb
          have hx : b = i := hx
          subst hx
          obtain ⟨o, ho, _⟩ := hl
          rw [getB_s0, if_neg i4, if_neg i3, if_neg i0] at ho
          cases ho
      · cases hT
    | panicked ch => obtain ⟨dv, v', ρ', ho, _⟩ := he; cases ho
    | outgrown => exact he.elim
  · rw [hv] at hen; injection hen with h1 _; cases h1
end Ck
end Go.D
