/-
  A loop over a function: a tree is measured (1).
-/
import Derived.Test.YtbecblfbikahkaaGreatDoorDh
set_option linter.all false
set_option linter.deprecated false
namespace Go.D
open Go
namespace Ms

abbrev ni (n : Nat) : DV := .int .i64 (.ofNat n)
abbrev pn : DV := .ptr none
abbrev t (n : Nat) : Opd := .tmp n
abbrev c (v : DV) : Opd := .const v
abbrev o (d : Nat) (op : DOp) : DOper := ⟨some d, op, none⟩
abbrev u (op : DOp) : DOper := ⟨none, op, none⟩

def r0 (el : Nat) : DCode := .region [o 6 (.load false 1 (t 1)),o 7 (.build [(ni 0),pn] [(0,1,(c (ni 1))),(1,1,(t 6))]),o 8 (.buildSlice el 2 1 [(ni 0),pn] [(0,2,(t 7))]),o 3 (.move (t 8))]
def c1 : DCode := .seq (.region [o 9 (.move (t 3)),o 10 (.lenSl (t 9)),o 11 (.bin .gtr 0 true (t 10) (c (ni 0)))]) (.cond (t 11) (.skip) (.exit 0))
def r2 (el : Nat) : DCode := .region [o 12 (.move (t 3)),o 13 (.move (t 3)),o 14 (.lenSl (t 13)),o 15 (.bin .sub 0 true (t 14) (c (ni 1))),o 16 (.indexSl 2 (t 12) (t 15)),o 17 (.load true 2 (t 16)),o 4 (.alloc el 2 [(ni 0),pn]),u (.store 2 (t 4) (t 17))]
def r3 : DCode := .region [o 18 (.move (t 3)),o 19 (.move (t 3)),o 20 (.lenSl (t 19)),o 21 (.bin .sub 0 true (t 20) (c (ni 1))),o 22 (.sliceSl 2 (t 18) none (some (t 21))),o 3 (.move (t 22))]
def r4 : List DOper := [o 23 (.move (t 0)),o 24 (.offset 0 (t 4)),o 25 (.load false 1 (t 24)),o 26 (.offset 1 (t 4)),o 27 (.load false 1 (t 26))]
def r4b : List DOper := [o 29 (.un .not (t 28))]
def r5 : DCode := .region [o 30 (.offset 1 (t 4)),o 31 (.load false 1 (t 30)),o 32 (.nilCheck (t 31)),o 33 (.offset 2 (t 32)),o 34 (.load false 1 (t 33)),o 35 (.lenSl (t 34)),o 36 (.bin .sub 0 true (t 35) (c (ni 1))),o 5 (.move (t 36))]
def c2 : DCode := .seq (.region [o 37 (.move (t 5)),o 38 (.bin .geq 0 true (t 37) (c (ni 0)))]) (.cond (t 38) (.skip) (.exit 2))
def r8 (el : Nat) : DCode := .region [o 41 (.move (t 3)),o 42 (.offset 0 (t 4)),o 43 (.load false 1 (t 42)),o 44 (.bin .add 0 true (t 43) (c (ni 1))),o 45 (.offset 1 (t 4)),o 46 (.load false 1 (t 45)),o 47 (.nilCheck (t 46)),o 48 (.offset 2 (t 47)),o 49 (.load false 1 (t 48)),o 50 (.move (t 5)),o 51 (.indexSl 5 (t 49) (t 50)),o 52 (.build [(ni 0),pn] [(0,1,(t 44)),(1,1,(t 51))]),o 53 (.buildSlice el 2 1 [(ni 0),pn] [(0,2,(t 52))]),o 54 (.append el 2 (t 41) (t 53)),o 3 (.move (t 54))]
def r9 : DCode := .region [o 39 (.move (t 5)),o 40 (.bin .sub 0 true (t 39) (c (ni 1))),o 5 (.move (t 40))]
def l2 (el : Nat) : DCode := .block 2 (.loop (.seq c2 (.seq (.block 3 (r8 el)) r9)))

/- lists -/
theorem takeE_ok {α : Type} : ∀ (n : Nat) (l : List α), n ≤ l.length → takeE n l = some (l.take n)
  | 0, l, _ => by simp [takeE]
  | n + 1, [], h => by simp at h
  | n + 1, x :: r, h => by simp only [takeE, takeE_ok n r (by simp at h; omega)]; rfl
theorem dropE_ok {α : Type} : ∀ (n : Nat) (l : List α), n ≤ l.length → dropE n l = some (l.drop n)
  | 0, l, _ => by simp [dropE]
  | n + 1, [], h => by simp at h
  | n + 1, x :: r, h => by simp only [dropE, dropE_ok n r (by simp at h; omega), List.drop_succ_cons]
theorem grab_ok {α : Type} (l : List α) (o n : Nat) (h : o + n ≤ l.length) : grab l o n = some ((l.drop o).take n) := by
  unfold grab
  rw [dropE_ok o l (by omega)]
  exact takeE_ok n _ (by rw [List.length_drop]; omega)
theorem grab_mid {α : Type} (a b r : List α) {o n : Nat} (ho : o = a.length) (hn : n = b.length) : grab (a ++ (b ++ r)) o n = some b := by
  subst ho; subst hn
  rw [grab_ok _ _ _ (by simp)]
  simp
theorem grab_head {α : Type} (b r : List α) {n : Nat} (hn : n = b.length) : grab (b ++ r) 0 n = some b := grab_mid [] b r rfl hn

/-- a place on the stack, as it lies -/
def ent (x : Nat × Nat × Nat) : List DV := [ni x.1, .ptr (some (x.2.1, x.2.2))]
def enc : List (Nat × Nat × Nat) → List DV
  | [] => []
  | x :: r => enc r ++ ent x
theorem enc_length : ∀ l, (enc l).length = l.length * 2
  | [] => rfl
  | x :: r => by simp only [enc, List.length_append, enc_length r, ent, List.length_cons, List.length_nil]; omega

def Stk (el : Nat) (s : St) (v : DV) (st : List (Nat × Nat × Nat)) (N : Nat) : Prop :=
  ∃ bk rest, v = .slice (some (bk, 0)) st.length ∧ getB s bk = some (.cells (enc st ++ rest) el 2) ∧ N ≤ bk ∧ bk < s.next

theorem bin_sub1 {k : Nat} (h : k ≤ imax) (cst : Bool) : binD .sub 0 cst (.int .i64 (.ofNat (k + 1))) (ni 1) = some (ni k) := by
  simp only [binD, isShift, ikEq, binInt, cond_true, cond_false]
  have : (Int.ofNat (k + 1) - Int.ofNat 1) = Int.ofNat k := by simp
  rw [this, wrapD_eq, wrap_pos k h]
theorem bin_sub0 (cst : Bool) : binD .sub 0 cst (ni 0) (ni 1) = some (.int .i64 (.negSucc 0)) := rfl
theorem bin_add1 {k : Nat} (h : k + 1 ≤ imax) (cst : Bool) : binD .add 0 cst (ni k) (ni 1) = some (ni (k + 1)) := by
  simp only [binD, isShift, ikEq, binInt, cond_true, cond_false]
  have : (Int.ofNat k + Int.ofNat 1) = Int.ofNat (k + 1) := rfl
  rw [this, wrapD_eq, wrap_pos (k + 1) h]
theorem bin_gt0 (k : Nat) (cst : Bool) : binD .gtr 0 cst (ni (k + 1)) (ni 0) = some (.bool true) := by
  simp only [binD, isShift, ikEq, binInt, cond_true, cond_false, iLt]
  rw [Nat.ble_eq_true_of_le (by omega)]
theorem bin_gt0' (cst : Bool) : binD .gtr 0 cst (ni 0) (ni 0) = some (.bool false) := rfl
theorem bin_ge0 (k : Nat) (cst : Bool) : binD .geq 0 cst (ni k) (ni 0) = some (.bool true) := by
  simp only [binD, isShift, ikEq, binInt, cond_true, cond_false, iLe]
  rw [Nat.ble_eq_true_of_le (by omega)]
theorem bin_ge0' (cst : Bool) : binD .geq 0 cst (.int .i64 (.negSucc 0)) (ni 0) = some (.bool false) := rfl

theorem build2 (s : St) (d : DV) (x : Option (Nat × Nat)) (n : Nat) (hd : d = ni n) : opBuild s [ni 0, pn] [(0, 1, d), (1, 1, .ptr x)] = some (.agg [ni n, .ptr x], s) := by subst hd; rfl
theorem buildS (s : St) (el : Nat) (l : List DV) (h : l.length = 2) : opBuildSlice s el 2 1 [ni 0, pn] [(0, 2, .agg l)] = some (.slice (some (s.next, 0)) 1, alloc s (.cells l el 2)) := by
  match l, h with
  | [a, b], _ => rfl
theorem natIn_ofNat {n hi : Nat} (h : n ≤ hi) : natIn (ni n) hi = some n := by simp only [natIn, Nat.ble_eq_true_of_le h, cond_true]

section
variable {D : DProg} {n el : Nat} {e : Env} {s : St}

theorem run_r0 {b : Nat} {p : Option (Nat × Nat)} (h1 : egt e 1 = .ptr (some (b, 0))) (hb : loadN s b 0 1 = some [.ptr p]) :
    ∃ e', exec D (n + 1) (r0 el) e s = some (.norm, e', alloc s (.cells [ni 1, .ptr p] el 2)) ∧ egt e' 3 = .slice (some (s.next, 0)) 1 ∧ egt e' 0 = egt e 0 := by
  refine ⟨eput (eput (eput (eput e 6 (.ptr p)) 7 (.agg [ni 1, .ptr p])) 8 (.slice (some (s.next, 0)) 1)) 3 (.slice (some (s.next, 0)) 1), ?_, ?_, ?_⟩
  · simp only [exec, r0, runOps, doOp, askG, afterOp, opD, ev, evp, h1, opLoad, loadV, hb, valO, put, egt_eput, ↓reduceIte, Nat.reduceEqDiff, build2 _ _ _ 1 rfl, buildS _ _ [ni 1, .ptr p] rfl]
  · simp [egt_eput]
  · simp [egt_eput]
theorem run_c1t {k : Nat} {a : Option (Nat × Nat)} (h3 : egt e 3 = .slice a (k + 1)) :
    ∃ e', exec D (n + 3) c1 e s = some (.norm, e', s) ∧ egt e' 3 = egt e 3 ∧ egt e' 0 = egt e 0 := by
  refine ⟨eput (eput (eput e 9 (.slice a (k + 1))) 10 (ni (k + 1))) 11 (.bool true), ?_, by simp [egt_eput], by simp [egt_eput]⟩
  simp only [exec, c1, runOps, doOp, askG, afterOp, opD, ev, h3, valO, put, egt_eput, opLenSl, ↓reduceIte, Nat.reduceEqDiff, bin_gt0, condD, thenD]
theorem run_c1f {a : Option (Nat × Nat)} (h3 : egt e 3 = .slice a 0) : ∃ e', exec D (n + 3) c1 e s = some (.exit 0, e', s) := by
  refine ⟨eput (eput (eput e 9 (.slice a 0)) 10 (ni 0)) 11 (.bool false), ?_⟩
  simp only [exec, c1, runOps, doOp, askG, afterOp, opD, ev, h3, valO, put, egt_eput, opLenSl, ↓reduceIte, Nat.reduceEqDiff, bin_gt0', condD, thenD]

theorem run_r2 {x : Nat × Nat × Nat} {st : List (Nat × Nat × Nat)} {N : Nat} (h : Stk el s (egt e 3) (x :: st) N) (hm : st.length + 1 ≤ imax) :
    ∃ e' s', exec D (n + 1) (r2 el) e s = some (.norm, e', s') ∧ egt e' 3 = egt e 3 ∧ egt e' 0 = egt e 0 ∧ egt e' 4 = .ptr (some (s.next, 0)) ∧ s'.next = s.next + 1 ∧ getB s' s.next = some (.cells (ent x) el 2) ∧ ∀ b, b ≠ s.next → getB s' b = getB s b := by
  obtain ⟨bk, rest, h1, h2, h3, h4⟩ := h
  have hl : loadN s bk (0 + st.length * 2) 2 = some (ent x) := by
    simp only [loadN, h2, enc, List.append_assoc]
    exact grab_mid _ _ _ (by rw [enc_length]; omega) rfl
  refine ⟨eput (eput (eput (eput (eput (eput (eput e 12 (egt e 3)) 13 (egt e 3)) 14 (ni (st.length + 1))) 15 (ni st.length)) 16 (.ptr (some (bk, 0 + st.length * 2)))) 17 (.agg (ent x))) 4 (.ptr (some (s.next, 0))), setB (alloc s (.cells [ni 0, pn] el 2)) s.next (.cells (ent x) el 2), ?_, by simp [egt_eput], by simp [egt_eput], by simp [egt_eput], by simp, by simp [getB_setB], fun b hb => by simp [getB_setB, getB_alloc, hb]⟩
  have hst : opStore (alloc s (.cells [ni 0, pn] el 2)) 2 (.ptr (some (s.next, 0))) (.agg (ent x)) = some (undefD, setB (alloc s (.cells [ni 0, pn] el 2)) s.next (.cells (ent x) el 2)) := by
    simp only [opStore, DV.cells, storeN, getB_alloc, if_pos]
    rfl
  have hix : opIndexSl s 2 (.slice (some (bk, 0)) (st.length + 1)) (ni st.length) = some (.ptr (some (bk, 0 + st.length * 2)), s) := by
    simp only [opIndexSl, natIn_ofNat (Nat.le_succ st.length)]
    rw [bif_true (Nat.ble_eq_true_of_le (Nat.le_refl _))]
  have h1' : egt e 3 = .slice (some (bk, 0)) (st.length + 1) := h1
  simp only [exec, r2, runOps, doOp, askG, afterOp, opD, ev, h1', valO, put, egt_eput, opLenSl, ↓reduceIte, Nat.reduceEqDiff, bin_sub1 (Nat.le_of_succ_le hm), hix, opLoad, loadV, hl, opAlloc, hst]

theorem run_r3 {x : Nat × Nat × Nat} {st : List (Nat × Nat × Nat)} {N : Nat} (h : Stk el s (egt e 3) (x :: st) N) (hm : st.length + 1 ≤ imax) :
    ∃ e', exec D (n + 1) r3 e s = some (.norm, e', s) ∧ Stk el s (egt e' 3) st N ∧ egt e' 0 = egt e 0 ∧ egt e' 4 = egt e 4 ∧ ∀ bk nn, egt e' 3 = .slice (some (bk, 0)) nn → egt e 3 = .slice (some (bk, 0)) (st.length + 1) := by
  obtain ⟨bk, rest, h1, h2, h3, h4⟩ := h
  have h1' : egt e 3 = .slice (some (bk, 0)) (st.length + 1) := h1
  have hs : opSliceSl s 2 (.slice (some (bk, 0)) (st.length + 1)) none (some (ni st.length)) = some (.slice (some (bk, 0)) st.length, s) := by
    simp only [opSliceSl, boundD, natIn_ofNat (Nat.le_succ st.length), sizeIs, h2]
    rfl
  refine ⟨eput (eput (eput (eput (eput (eput e 18 (egt e 3)) 19 (egt e 3)) 20 (ni (st.length + 1))) 21 (ni st.length)) 22 (.slice (some (bk, 0)) st.length)) 3 (.slice (some (bk, 0)) st.length), ?_, ?_, by simp [egt_eput], by simp [egt_eput], ?_⟩
  · simp only [exec, r3, runOps, doOp, askG, afterOp, opD, ev, evo, h1', valO, put, egt_eput, opLenSl, ↓reduceIte, Nat.reduceEqDiff, bin_sub1 (Nat.le_of_succ_le hm), hs]
  · refine ⟨bk, ent x ++ rest, by simp [egt_eput], ?_, h3, h4⟩
    rw [h2]; simp only [enc, List.append_assoc]
  · intro bk' nn h
    rw [egt_eput, if_pos rfl] at h
    injection h with h _; injection h with h; injection h with h _
    subst h; exact h1'

/-- x's place -/
def At (el : Nat) (s : St) (v : DV) (x : Nat × Nat × Nat) (N : Nat) : Prop := ∃ bx, v = .ptr (some (bx, 0)) ∧ getB s bx = some (.cells (ent x) el 2) ∧ N ≤ bx ∧ bx < s.next

theorem run_r4 {call : Caller} {x : Nat × Nat × Nat} {N : Nat} (h : At el s (egt e 4) x N) :
    ∃ e', runOps call r4 e s = some (.norm, e', s) ∧ egt e' 23 = egt e 0 ∧ egt e' 25 = ni x.1 ∧ egt e' 27 = .ptr (some (x.2.1, x.2.2)) ∧ egt e' 0 = egt e 0 ∧ egt e' 3 = egt e 3 ∧ egt e' 4 = egt e 4 := by
  obtain ⟨bx, h1, h2, h3, h4⟩ := h
  have l0 : loadN s bx (0 + 0) 1 = some [ni x.1] := by simp only [loadN, h2]; rfl
  have l1 : loadN s bx (0 + 1) 1 = some [.ptr (some (x.2.1, x.2.2))] := by simp only [loadN, h2]; rfl
  refine ⟨eput (eput (eput (eput (eput e 23 (egt e 0)) 24 (.ptr (some (bx, 0 + 0)))) 25 (ni x.1)) 26 (.ptr (some (bx, 0 + 1)))) 27 (.ptr (some (x.2.1, x.2.2))), ?_, by simp [egt_eput], by simp [egt_eput], by simp [egt_eput], by simp [egt_eput], by simp [egt_eput], by simp [egt_eput]⟩
  simp only [r4, runOps, doOp, askG, afterOp, opD, ev, h1, valO, put, egt_eput, opOffset, ↓reduceIte, Nat.reduceEqDiff, opLoad, loadV, l0, l1]

theorem run_r5 {x : Nat × Nat × Nat} {N : Nat} {a : Option (Nat × Nat)} {k : Nat} (h : At el s (egt e 4) x N) (hk : loadN s x.2.1 (x.2.2 + 2) 1 = some [.slice a k]) (hm : k ≤ imax) :
    ∃ e', exec D (n + 1) r5 e s = some (.norm, e', s) ∧ egt e' 5 = .int .i64 ((k : Int) - 1) ∧ egt e' 0 = egt e 0 ∧ egt e' 3 = egt e 3 ∧ egt e' 4 = egt e 4 := by
  obtain ⟨bx, h1, h2, h3, h4⟩ := h
  have l1 : loadN s bx (0 + 1) 1 = some [.ptr (some (x.2.1, x.2.2))] := by simp only [loadN, h2]; rfl
  have hb : binD .sub 0 true (ni k) (ni 1) = some (.int .i64 ((k : Int) - 1)) := by
    cases k with
    | zero => rfl
    | succ k => rw [bin_sub1 (by omega)]; simp
  refine ⟨eput (eput (eput (eput (eput (eput (eput (eput e 30 (.ptr (some (bx, 0 + 1)))) 31 (.ptr (some (x.2.1, x.2.2)))) 32 (.ptr (some (x.2.1, x.2.2)))) 33 (.ptr (some (x.2.1, x.2.2 + 2)))) 34 (.slice a k)) 35 (ni k)) 36 (.int .i64 ((k : Int) - 1))) 5 (.int .i64 ((k : Int) - 1)), ?_, by simp [egt_eput], by simp [egt_eput], by simp [egt_eput], by simp [egt_eput]⟩
  simp only [exec, r5, runOps, doOp, askG, afterOp, opD, ev, h1, valO, put, egt_eput, opOffset, opNilCheck, ↓reduceIte, Nat.reduceEqDiff, opLoad, loadV, l1, hk, opLenSl, hb]

theorem run_c2t {k : Nat} (h5 : egt e 5 = ni k) :
    ∃ e', exec D (n + 3) c2 e s = some (.norm, e', s) ∧ egt e' 5 = egt e 5 ∧ egt e' 0 = egt e 0 ∧ egt e' 3 = egt e 3 ∧ egt e' 4 = egt e 4 := by
  refine ⟨eput (eput e 37 (egt e 5)) 38 (.bool true), ?_, by simp [egt_eput], by simp [egt_eput], by simp [egt_eput], by simp [egt_eput]⟩
  simp only [exec, c2, runOps, doOp, askG, afterOp, opD, ev, h5, valO, put, egt_eput, ↓reduceIte, Nat.reduceEqDiff, bin_ge0, condD, thenD]
theorem run_c2f (h5 : egt e 5 = .int .i64 (.negSucc 0)) :
    ∃ e', exec D (n + 3) c2 e s = some (.exit 2, e', s) ∧ egt e' 0 = egt e 0 ∧ egt e' 3 = egt e 3 ∧ egt e' 4 = egt e 4 := by
  refine ⟨eput (eput e 37 (egt e 5)) 38 (.bool false), ?_, by simp [egt_eput], by simp [egt_eput], by simp [egt_eput]⟩
  simp only [exec, c2, runOps, doOp, askG, afterOp, opD, ev, h5, valO, put, egt_eput, ↓reduceIte, Nat.reduceEqDiff, bin_ge0', condD, thenD]
theorem run_r9 {j : Nat} (h5 : egt e 5 = ni j) (hm : j ≤ imax) :
    ∃ e', exec D (n + 1) r9 e s = some (.norm, e', s) ∧ egt e' 5 = .int .i64 ((j : Int) - 1) ∧ egt e' 0 = egt e 0 ∧ egt e' 3 = egt e 3 ∧ egt e' 4 = egt e 4 := by
  have hb : binD .sub 0 true (ni j) (ni 1) = some (.int .i64 ((j : Int) - 1)) := by
    cases j with
    | zero => rfl
    | succ k => rw [bin_sub1 (by omega)]; simp
  refine ⟨eput (eput (eput e 39 (ni j)) 40 (.int .i64 ((j : Int) - 1))) 5 (.int .i64 ((j : Int) - 1)), ?_, by simp [egt_eput], by simp [egt_eput], by simp [egt_eput], by simp [egt_eput]⟩
  simp only [exec, r9, runOps, doOp, askG, afterOp, opD, ev, h5, valO, put, egt_eput, ↓reduceIte, Nat.reduceEqDiff, hb]

theorem run_r8 {x : Nat × Nat × Nat} {st : List (Nat × Nat × Nat)} {N j k : Nat} {cb p : Nat} (hs : Stk el s (egt e 3) st N) (h : At el s (egt e 4) x N) (h5 : egt e 5 = ni j) (hne : ∀ bx bk nn, egt e 4 = .ptr (some (bx, 0)) → egt e 3 = .slice (some (bk, 0)) nn → bx ≠ bk)
    (hk : loadN s x.2.1 (x.2.2 + 2) 1 = some [.slice (some (cb, p)) k]) (hj : j < k) (hd : x.1 + 1 ≤ imax) (hm : st.length + 1 ≤ most) :
    ∃ e' s', exec D (n + 1) (r8 el) e s = some (.norm, e', s') ∧ Stk el s' (egt e' 3) ((x.1 + 1, cb, p + j * 5) :: st) N ∧ At el s' (egt e' 4) x N ∧ egt e' 5 = egt e 5 ∧ egt e' 0 = egt e 0 ∧ egt e' 4 = egt e 4 ∧
      (∀ b, b < N → getB s' b = getB s b) ∧ (∀ bx bk nn, egt e' 4 = .ptr (some (bx, 0)) → egt e' 3 = .slice (some (bk, 0)) nn → bx ≠ bk) ∧ s.next ≤ s'.next := by
  obtain ⟨bx, h1, h2, h3, h4⟩ := h
  obtain ⟨bk, rest, g1, g2, g3, g4⟩ := hs
  have hxk : bx ≠ bk := hne _ _ _ h1 g1
  have l0 : loadN s bx (0 + 0) 1 = some [ni x.1] := by simp only [loadN, h2]; rfl
  have l1 : loadN s bx (0 + 1) 1 = some [.ptr (some (x.2.1, x.2.2))] := by simp only [loadN, h2]; rfl
  have hix : opIndexSl s 5 (.slice (some (cb, p)) k) (ni j) = some (.ptr (some (cb, p + j * 5)), s) := by
    simp only [opIndexSl, natIn_ofNat (Nat.le_of_lt hj)]
    rw [bif_true (Nat.ble_eq_true_of_le hj)]
  have s1b : getB (alloc s (.cells (ent (x.1 + 1, cb, p + j * 5)) el 2)) bk = some (.cells (enc st ++ rest) el 2) := by
    rw [getB_alloc, if_neg (by omega), g2]
  have hap : appendD el 2 (.slice (some (bk, 0)) st.length) (.slice (some (s.next, 0)) 1) (alloc s (.cells (ent (x.1 + 1, cb, p + j * 5)) el 2)) =
      some (.slice (some (s.next + 1, 0)) (st.length + 1), alloc (setB (alloc s (.cells (ent (x.1 + 1, cb, p + j * 5)) el 2)) bk .dead) (.cells (enc st ++ ent (x.1 + 1, cb, p + j * 5)) el 2)) := by
    have sh1 : shown (alloc s (.cells (ent (x.1 + 1, cb, p + j * 5)) el 2)) 2 (.slice (some (s.next, 0)) 1) = some (ent (x.1 + 1, cb, p + j * 5), 1) := by
      simp only [shown, loadN, getB_alloc, if_pos]; rfl
    have sh2 : shown (alloc s (.cells (ent (x.1 + 1, cb, p + j * 5)) el 2)) 2 (.slice (some (bk, 0)) st.length) = some (enc st, st.length) := by
      simp only [shown, loadN, s1b]
      rw [grab_head _ _ (by rw [enc_length])]
    have at1 : atoms (ent (x.1 + 1, cb, p + j * 5)) = true := rfl
    simp only [appendD, sh1, sh2, elemIs, s1b, at1, Nat.beq_refl, Bool.and_true, Nat.ble_eq_true_of_le hm, cond_true, ends, next_setB, next_alloc]
  refine ⟨eput (eput (eput (eput (eput (eput (eput (eput (eput (eput (eput (eput (eput (eput (eput e 41 (.slice (some (bk, 0)) st.length)) 42 (.ptr (some (bx, 0 + 0)))) 43 (ni x.1)) 44 (ni (x.1 + 1))) 45 (.ptr (some (bx, 0 + 1)))) 46 (.ptr (some (x.2.1, x.2.2)))) 47 (.ptr (some (x.2.1, x.2.2)))) 48 (.ptr (some (x.2.1, x.2.2 + 2)))) 49 (.slice (some (cb, p)) k)) 50 (ni j)) 51 (.ptr (some (cb, p + j * 5)))) 52 (.agg (ent (x.1 + 1, cb, p + j * 5)))) 53 (.slice (some (s.next, 0)) 1)) 54 (.slice (some (s.next + 1, 0)) (st.length + 1))) 3 (.slice (some (s.next + 1, 0)) (st.length + 1)), alloc (setB (alloc s (.cells (ent (x.1 + 1, cb, p + j * 5)) el 2)) bk .dead) (.cells (enc st ++ ent (x.1 + 1, cb, p + j * 5)) el 2), ?_, ?_, ?_, by simp [egt_eput], by simp [egt_eput], by simp [egt_eput], ?_, ?_, ?_⟩
  rotate_left
  · exact ⟨s.next + 1, [], by simp [egt_eput], by rw [getB_alloc]; simp [enc], by omega, by simp⟩
  · refine ⟨bx, by simp [egt_eput, h1], ?_, h3, by simp; omega⟩
    rw [getB_alloc, if_neg (by simp; omega), getB_setB, if_neg hxk, getB_alloc, if_neg (by omega), h2]
  · intro b hb
    rw [getB_alloc, if_neg (by simp; omega), getB_setB, if_neg (by omega), getB_alloc, if_neg (by omega)]
  · intro bx' bk' nn e1 e2
    simp [egt_eput] at e1 e2
    rw [h1] at e1
    injection e1 with e1; injection e1 with e1; injection e1 with e1 _
    subst e1
    have := e2.1
    omega
  · simp; omega
  · simp only [exec, r8, runOps, doOp, askG, afterOp, opD, ev, evp, h1, g1, h5, valO, put, egt_eput, opOffset, opNilCheck, ↓reduceIte, Nat.reduceEqDiff, opLoad, loadV, l0, l1, hk, hix, bin_add1 hd, build2 _ _ _ (x.1 + 1) rfl]
    rw [buildS _ _ [ni (x.1 + 1), .ptr (some (cb, p + j * 5))] rfl]
    simp only [put, egt_eput, ↓reduceIte, Nat.reduceEqDiff]
    have hap' : appendD el 2 (.slice (some (bk, 0)) st.length) (.slice (some (s.next, 0)) 1) (alloc s (.cells [ni (x.1 + 1), .ptr (some (cb, p + j * 5))] el 2)) = _ := hap
    rw [hap']
    rfl
end
end Ms
end Go.D
namespace Go.D
open Go
namespace Ms

theorem kidsAt_length (d b : Nat) : ∀ (n o : Nat) (l : List (Nat × Nat × Nat)), (kidsAt d b n o l).length = n + l.length
  | 0, _, _ => by simp [kidsAt]
  | n + 1, o, l => by simp only [kidsAt, List.length_cons, kidsAt_length d b n]; omega

def ra (ti tc : Nat) : DCode := .region [o 2 (.alloc ti 1 [ni 0]),o 3 (.alloc ti 1 [ni 0]),o 4 (.alloc tc 1 [ni 0])]
def rb (fw : Nat) : DCode := .region [o 6 (.move (t 0)),o 7 (.call fw [(t 6)])]
def dw (tp fi : Nat) : DFunc := ⟨[.tmp 2], .seq (.region [o 1 (.box tp 1 (t 0)),o 2 (.move (c .nilFunc))]) (.seq (.region [o 3 (.func (.func fi) [] [(t 1)]),o 2 (.move (t 3))]) (.ret)), none⟩
def ma : DCode := .region [o 5 (.move (t 8))]
def m1 : DCode := .region [o 10 (.load false 1 (t 2)),o 11 (.bin .add 0 true (t 10) (c (ni 1))),u (.store 1 (t 2) (t 11))]
def m2 (lim : Nat) : DCode := .region [o 12 (.load false 1 (t 2)),o 13 (.bin .gtr 0 true (t 12) (c (ni lim)))]
def m3 (code : Nat) : DCode := .region [u (.store 1 (t 2) (c (ni 0))),u (.store 1 (t 3) (c (ni 0))),u (.store 1 (t 4) (c (ni code)))]
def m4 : DCode := .region [o 14 (.load false 1 (t 3)),o 15 (.move (t 5)),o 16 (.max (t 14) (t 15)),u (.store 1 (t 3) (t 16))]
def mb : DCode := .block 1 (.seq (.seq m1 (.seq (m2 4194304) (.cond (t 13) (.seq (m3 802) .ret) .skip))) m4)
def m5 (lim : Nat) : DCode := .region [o 17 (.load false 1 (t 3)),o 18 (.bin .gtr 0 true (t 17) (c (ni lim)))]
def m6 : DCode := .region [o 19 (.load false 1 (t 2)),o 20 (.load false 1 (t 3)),u (.store 1 (t 2) (t 19)),u (.same 20 (.load false 1 (t 3))),u (.store 1 (t 3) (t 20)),u (.store 1 (t 4) (c (ni 0)))]
def mr : DCode := .seq (.seq (m5 8000) (.cond (t 18) (.seq (m3 801) .ret) .skip)) (.seq m6 .ret)

section
variable {D : DProg} {el : Nat}

/-- the kids are pushed, the last one first -/
theorem run_l2 {x : Nat × Nat × Nat} {st : List (Nat × Nat × Nat)} {N k cb p : Nat} (hd : x.1 + 1 ≤ imax) (hm : st.length + k ≤ 1073741824) (hx : x.2.1 < N) : ∀ (j : Nat) (e : Env) (s : St), j ≤ k →
    Stk el s (egt e 3) (kidsAt (x.1 + 1) cb (k - j) (p + j * 5) st) N → At el s (egt e 4) x N → egt e 5 = .int .i64 ((j : Int) - 1) → (∀ bx bk nn, egt e 4 = .ptr (some (bx, 0)) → egt e 3 = .slice (some (bk, 0)) nn → bx ≠ bk) →
    (0 < j → loadN s x.2.1 (x.2.2 + 2) 1 = some [.slice (some (cb, p)) k]) →
    ∃ m e' s', (∀ m', m ≤ m' → exec D m' (.loop (.seq c2 (.seq (.block 3 (r8 el)) r9))) e s = some (.exit 2, e', s')) ∧ Stk el s' (egt e' 3) (kidsAt (x.1 + 1) cb k p st) N ∧ egt e' 0 = egt e 0 ∧ (∀ b, b < N → getB s' b = getB s b) ∧ s.next ≤ s'.next := by
  intro j
  induction j with
  | zero =>
    intro e s hj h1 h2 h3 h4 hk
    obtain ⟨e', g1, g2, g3, g4⟩ := run_c2f (D := D) (e := e) (s := s) (n := 0) h3
    have g1' : ∀ n, exec D (n + 3) c2 e s = some (.exit 2, e', s) := by
      intro n
      obtain ⟨e'', q1, _⟩ := run_c2f (D := D) (e := e) (s := s) (n := n) h3
      have : exec D (n + 3) c2 e s = exec D (0 + 3) c2 e s := by
        simp only [exec, c2, runOps, doOp, askG, afterOp, opD, ev, h3, valO, put, egt_eput, ↓reduceIte, Nat.reduceEqDiff, condD, thenD]
      rw [this, g1]
    refine ⟨5, e', s, fun m' hm' => ?_, by rw [g3]; simpa using h1, g2, fun _ _ => rfl, Nat.le_refl _⟩
    obtain ⟨n, rfl⟩ : ∃ n, m' = n + 5 := ⟨m' - 5, by omega⟩
    have e0 : exec D (n + 5) (.loop (.seq c2 (.seq (.block 3 (r8 el)) r9))) e s = thenD (exec D (n + 4) (.loop (.seq c2 (.seq (.block 3 (r8 el)) r9)))) (thenD (exec D (n + 3) (.seq (.block 3 (r8 el)) r9)) (exec D (n + 3) c2 e s)) := rfl
    rw [e0, g1' n]
    rfl
  | succ i ih =>
    intro e s hj h1 h2 h3 h4 hk
    have h3' : egt e 5 = ni i := by rw [h3]; simp
    obtain ⟨e1, a1, a2, a3, a4, a5⟩ : ∃ e', (∀ n, exec D (n + 3) c2 e s = some (.norm, e', s)) ∧ egt e' 5 = egt e 5 ∧ egt e' 0 = egt e 0 ∧ egt e' 3 = egt e 3 ∧ egt e' 4 = egt e 4 := by
      refine ⟨eput (eput e 37 (egt e 5)) 38 (.bool true), fun n => ?_, by simp [egt_eput], by simp [egt_eput], by simp [egt_eput], by simp [egt_eput]⟩
      simp only [exec, c2, runOps, doOp, askG, afterOp, opD, ev, h3', valO, put, egt_eput, ↓reduceIte, Nat.reduceEqDiff, bin_ge0, condD, thenD]
    have hlen : (kidsAt (x.1 + 1) cb (k - (i + 1)) (p + (i + 1) * 5) st).length + 1 ≤ most := by rw [kidsAt_length]; unfold most; omega
    have hkk := hk (by omega)
    obtain ⟨e2, s2, b1, b2, b3, b4, b5, b6, b7, b8, b9⟩ : ∃ e' s', (∀ n, exec D (n + 1) (r8 el) e1 s = some (.norm, e', s')) ∧ Stk el s' (egt e' 3) ((x.1 + 1, cb, p + i * 5) :: kidsAt (x.1 + 1) cb (k - (i + 1)) (p + (i + 1) * 5) st) N ∧ At el s' (egt e' 4) x N ∧ egt e' 5 = egt e1 5 ∧ egt e' 0 = egt e1 0 ∧ egt e' 4 = egt e1 4 ∧
        (∀ b, b < N → getB s' b = getB s b) ∧ (∀ bx bk nn, egt e' 4 = .ptr (some (bx, 0)) → egt e' 3 = .slice (some (bk, 0)) nn → bx ≠ bk) ∧ s.next ≤ s'.next := by
      obtain ⟨e', s', q1, q2⟩ := run_r8 (D := D) (n := 0) (el := el) (e := e1) (s := s) (st := kidsAt (x.1 + 1) cb (k - (i + 1)) (p + (i + 1) * 5) st) (j := i) (k := k) (cb := cb) (p := p) (N := N) (x := x)
        (by rw [a4]; exact h1) (by rw [a5]; exact h2) (by rw [a2]; exact h3') (by rw [a4, a5]; exact h4) hkk (by omega) hd hlen
      exact ⟨e', s', fun n => q1, q2⟩
    obtain ⟨e3, c1, c2', c3, c4, c5⟩ : ∃ e', (∀ n, exec D (n + 1) r9 e2 s2 = some (.norm, e', s2)) ∧ egt e' 5 = .int .i64 ((i : Int) - 1) ∧ egt e' 0 = egt e2 0 ∧ egt e' 3 = egt e2 3 ∧ egt e' 4 = egt e2 4 := by
      obtain ⟨e', q1, q2⟩ := run_r9 (D := D) (n := 0) (e := e2) (s := s2) (j := i) (by rw [b4, a2]; exact h3') (by unfold most imax at *; omega)
      exact ⟨e', fun n => q1, q2⟩
    have hst : kidsAt (x.1 + 1) cb (k - i) (p + i * 5) st = (x.1 + 1, cb, p + i * 5) :: kidsAt (x.1 + 1) cb (k - (i + 1)) (p + (i + 1) * 5) st := by
      rw [show k - i = (k - (i + 1)) + 1 by omega]
      simp only [kidsAt]
      rw [show p + i * 5 + 5 = p + (i + 1) * 5 by omega]
    obtain ⟨m, e', s', d1, d2, d3, d4, d5⟩ := ih e3 s2 (by omega) (by rw [c4, hst]; exact b2) (by rw [c5]; exact b3) c2' (by rw [c4, c5]; exact b8)
      (fun _ => by rw [← hkk]; simp only [loadN, b7 _ hx])
    refine ⟨m + 6, e', s', fun m' hm' => ?_, d2, ?_, fun b hb => by rw [d4 b hb, b7 b hb], by omega⟩
    · obtain ⟨n, rfl⟩ : ∃ n, m' = n + 6 := ⟨m' - 6, by omega⟩
      have q1 := a1 (n + 1)
      have q2 := b1 (n + 1)
      have q3 := c1 (n + 2)
      have q4 := d1 (n + 5) (by omega)
      have e1' : exec D (n + 6) (.loop (.seq c2 (.seq (.block 3 (r8 el)) r9))) e s = thenD (exec D (n + 5) (.loop (.seq c2 (.seq (.block 3 (r8 el)) r9)))) (thenD (exec D (n + 4) (.seq (.block 3 (r8 el)) r9)) (exec D (n + 4) c2 e s)) := rfl
      have e2' : ∀ e s, exec D (n + 4) (.seq (.block 3 (r8 el)) r9) e s = thenD (exec D (n + 3) r9) (blockD 3 (exec D (n + 2) (r8 el) e s)) := fun _ _ => rfl
      rw [e1', q1]
      simp only [thenD]
      rw [e2', q2]
      simp only [blockD, thenD]
      rw [q3]
      simp only [thenD]
      exact q4
    · rw [d3, c3, b5, a3]

/-- the whole block -/
theorem run_l2b {x : Nat × Nat × Nat} {st : List (Nat × Nat × Nat)} {N k cb p : Nat} {e : Env} {s : St} (hd : x.1 + 1 ≤ imax) (hm : st.length + k ≤ 1073741824) (hx : x.2.1 < N)
    (h1 : Stk el s (egt e 3) st N) (h2 : At el s (egt e 4) x N) (h3 : egt e 5 = .int .i64 ((k : Int) - 1)) (h4 : ∀ bx bk nn, egt e 4 = .ptr (some (bx, 0)) → egt e 3 = .slice (some (bk, 0)) nn → bx ≠ bk)
    (hk : 0 < k → loadN s x.2.1 (x.2.2 + 2) 1 = some [.slice (some (cb, p)) k]) :
    ∃ m e' s', exec D m (l2 el) e s = some (.norm, e', s') ∧ Stk el s' (egt e' 3) (kidsAt (x.1 + 1) cb k p st) N ∧ egt e' 0 = egt e 0 ∧ (∀ b, b < N → getB s' b = getB s b) ∧ s.next ≤ s'.next := by
  obtain ⟨m, e', s', g1, g2⟩ := run_l2 (D := D) hd hm hx k e s (Nat.le_refl k) (by rw [Nat.sub_self]; simpa [kidsAt] using h1) h2 h3 h4 hk
  refine ⟨m + 1, e', s', ?_, g2⟩
  have := g1 m (Nat.le_refl m)
  show blockD 2 (exec D m _ e s) = _
  rw [this]
  rfl

/- measure's pieces -/
theorem bin_gt (k m : Nat) (cst : Bool) : binD .gtr 0 cst (ni k) (ni m) = some (.bool (Nat.ble (m + 1) k)) := rfl
def One (s : St) (b : Nat) (v : DV) : Prop := ∃ ty, getB s b = some (.cells [v] ty 1)
theorem One.load {s : St} {b : Nat} {v : DV} (h : One s b v) : opLoad s false 1 (.ptr (some (b, 0))) = some (v, s) := by
  obtain ⟨ty, h⟩ := h
  simp only [opLoad, loadV, loadN, h]; rfl
theorem One.store {s : St} {b : Nat} {v x : DV} (h : One s b v) (hx : isAtom x = true) (hc : x.cells = [x]) : ∃ s', opStore s 1 (.ptr (some (b, 0))) x = some (undefD, s') ∧ One s' b x ∧ s'.next = s.next ∧ ∀ a, a ≠ b → getB s' a = getB s a := by
  obtain ⟨ty, h⟩ := h
  refine ⟨setB s b (.cells [x] ty 1), ?_, ⟨ty, by rw [getB_setB, if_pos rfl]⟩, rfl, fun a ha => by rw [getB_setB, if_neg ha]⟩
  simp only [opStore, hc, storeN, h, atoms, hx]
  rfl
theorem One.of {s s' : St} {b : Nat} {v : DV} (h : One s b v) (e : getB s' b = getB s b) : One s' b v := by obtain ⟨ty, h⟩ := h; exact ⟨ty, by rw [e, h]⟩

variable {n : Nat} {e : Env} {s : St} {z y q : Nat}

theorem run_m1 {k : Nat} (h2 : egt e 2 = .ptr (some (z, 0))) (h : One s z (ni k)) (hk : k + 1 ≤ imax) :
    ∃ e' s', (∀ n, exec D (n + 1) m1 e s = some (.norm, e', s')) ∧ One s' z (ni (k + 1)) ∧ s'.next = s.next ∧ (∀ a, a ≠ z → getB s' a = getB s a) ∧ ∀ u, u < 10 → egt e' u = egt e u := by
  obtain ⟨s', g1, g2, g3, g4⟩ := h.store (x := ni (k + 1)) rfl rfl
  refine ⟨eput (eput e 10 (ni k)) 11 (ni (k + 1)), s', fun n => ?_, g2, g3, g4, fun u hu => by rw [egt_eput, if_neg (by omega), egt_eput, if_neg (by omega)]⟩
  simp only [exec, m1, runOps, doOp, askG, afterOp, opD, ev, h2, h.load, valO, put, egt_eput, ↓reduceIte, Nat.reduceEqDiff, bin_add1 hk, g1]
theorem run_m2 {k lim : Nat} (h2 : egt e 2 = .ptr (some (z, 0))) (h : One s z (ni k)) :
    ∃ e', (∀ n, exec D (n + 1) (m2 lim) e s = some (.norm, e', s)) ∧ egt e' 13 = .bool (Nat.ble (lim + 1) k) ∧ ∀ u, u < 10 → egt e' u = egt e u := by
  refine ⟨eput (eput e 12 (ni k)) 13 (.bool (Nat.ble (lim + 1) k)), fun n => ?_, by simp [egt_eput], fun u hu => by rw [egt_eput, if_neg (by omega), egt_eput, if_neg (by omega)]⟩
  simp only [exec, m2, runOps, doOp, askG, afterOp, opD, ev, h2, h.load, valO, put, egt_eput, ↓reduceIte, Nat.reduceEqDiff, bin_gt]
theorem run_m5 {k lim : Nat} (h2 : egt e 3 = .ptr (some (z, 0))) (h : One s z (ni k)) :
    ∃ e', (∀ n, exec D (n + 1) (m5 lim) e s = some (.norm, e', s)) ∧ egt e' 18 = .bool (Nat.ble (lim + 1) k) ∧ ∀ u, u < 10 → egt e' u = egt e u := by
  refine ⟨eput (eput e 17 (ni k)) 18 (.bool (Nat.ble (lim + 1) k)), fun n => ?_, by simp [egt_eput], fun u hu => by rw [egt_eput, if_neg (by omega), egt_eput, if_neg (by omega)]⟩
  simp only [exec, m5, runOps, doOp, askG, afterOp, opD, ev, h2, h.load, valO, put, egt_eput, ↓reduceIte, Nat.reduceEqDiff, bin_gt]
theorem run_m3 {a b d : DV} {code : Nat} (h2 : egt e 2 = .ptr (some (z, 0))) (h3 : egt e 3 = .ptr (some (y, 0))) (h4 : egt e 4 = .ptr (some (q, 0))) (ha : One s z a) (hb : One s y b) (hd : One s q d) (n1 : z ≠ y) (n2 : z ≠ q) (n3 : y ≠ q) :
    ∃ s', (∀ n, exec D (n + 1) (m3 code) e s = some (.norm, e, s')) ∧ One s' z (ni 0) ∧ One s' y (ni 0) ∧ One s' q (ni code) ∧ s'.next = s.next ∧ ∀ a, a ≠ z → a ≠ y → a ≠ q → getB s' a = getB s a := by
  obtain ⟨s1, g1, g2, g3, g4⟩ := ha.store (x := ni 0) rfl rfl
  obtain ⟨s2, i1, i2, i3, i4⟩ := (hb.of (g4 y n1.symm)).store (x := ni 0) rfl rfl
  obtain ⟨s3, j1, j2, j3, j4⟩ := ((hd.of (g4 q n2.symm)).of (i4 q n3.symm)).store (x := ni code) rfl rfl
  refine ⟨s3, fun n => ?_, (g2.of (i4 z n1)).of (j4 z n2), i2.of (j4 y n3), j2, by omega, fun a h1 h2 h3 => by rw [j4 a h3, i4 a h2, g4 a h1]⟩
  simp only [exec, m3, runOps, doOp, askG, afterOp, opD, ev, h2, h3, h4, valO, put, g1, i1, j1]
theorem run_m4 {k d : Nat} (h3 : egt e 3 = .ptr (some (y, 0))) (h5 : egt e 5 = ni d) (h : One s y (ni k)) :
    ∃ e' s', (∀ n, exec D (n + 1) m4 e s = some (.norm, e', s')) ∧ One s' y (ni (Nat.max k d)) ∧ s'.next = s.next ∧ (∀ a, a ≠ y → getB s' a = getB s a) ∧ ∀ u, u < 10 → egt e' u = egt e u := by
  obtain ⟨s', g1, g2, g3, g4⟩ := h.store (x := ni (Nat.max k d)) rfl rfl
  have hm : opMax s (ni k) (ni d) = some (ni (Nat.max k d), s) := by
    simp only [opMax, iLt]
    rcases Nat.lt_or_ge k d with hl | hl
    · rw [bif_true (Nat.ble_eq_true_of_le hl)]
      have : Nat.max k d = d := Nat.max_eq_right (Nat.le_of_lt hl)
      rw [this]
    · have hb : Nat.ble (k + 1) d = false := by
        cases hb : Nat.ble (k + 1) d with
        | false => rfl
        | true => have := Nat.le_of_ble_eq_true hb; omega
      rw [bif_false hb]
      have : Nat.max k d = k := Nat.max_eq_left hl
      rw [this]
  refine ⟨eput (eput (eput e 14 (ni k)) 15 (ni d)) 16 (ni (Nat.max k d)), s', fun n => ?_, g2, g3, g4, fun u hu => by rw [egt_eput, if_neg (by omega), egt_eput, if_neg (by omega), egt_eput, if_neg (by omega)]⟩
  simp only [exec, m4, runOps, doOp, askG, afterOp, opD, ev, h3, h5, h.load, valO, put, egt_eput, ↓reduceIte, Nat.reduceEqDiff, hm, g1]

theorem run_m6 {k d : Nat} {v : DV} (h2 : egt e 2 = .ptr (some (z, 0))) (h3 : egt e 3 = .ptr (some (y, 0))) (h4 : egt e 4 = .ptr (some (q, 0))) (ha : One s z (ni k)) (hb : One s y (ni d)) (hd : One s q v) (n1 : z ≠ y) (n2 : z ≠ q) (n3 : y ≠ q) :
    ∃ e' s', (∀ n, exec D (n + 1) m6 e s = some (.norm, e', s')) ∧ One s' z (ni k) ∧ One s' y (ni d) ∧ One s' q (ni 0) ∧ s'.next = s.next ∧ (∀ a, a ≠ z → a ≠ y → a ≠ q → getB s' a = getB s a) ∧ ∀ u, u < 10 → egt e' u = egt e u := by
  obtain ⟨s1, g1, g2, g3, g4⟩ := ha.store (x := ni k) rfl rfl
  obtain ⟨s2, i1, i2, i3, i4⟩ := (hb.of (g4 y n1.symm)).store (x := ni d) rfl rfl
  obtain ⟨s3, j1, j2, j3, j4⟩ := ((hd.of (g4 q n2.symm)).of (i4 q n3.symm)).store (x := ni 0) rfl rfl
  have hsame : sameV (ni d) (ni d) = true := by
    have : Nat.beq d d = true := Nat.beq_refl d
    simp only [sameV, DV.cells, sameL, sameC, ikEq, iEq, this]
    rfl
  refine ⟨eput (eput e 19 (ni k)) 20 (ni d), s3, fun n => ?_, (g2.of (i4 z n1)).of (j4 z n2), i2.of (j4 y n3), j2, by omega, fun a h1 h2 h3 => by rw [j4 a h3, i4 a h2, g4 a h1], fun u hu => by rw [egt_eput, if_neg (by omega), egt_eput, if_neg (by omega)]⟩
  simp only [exec, m6, runOps, doOp, askG, afterOp, opD, ev, h2, h3, h4, ha.load, hb.load, valO, put, egt_eput, ↓reduceIte, Nat.reduceEqDiff, g1, sameD, (hb.of (g4 y n1.symm)).load, hsame, i1, j1]

/-- what the three cells hold -/
structure Three (s : St) (z y q : Nat) (a b v : DV) : Prop where
  hz : One s z a
  hy : One s y b
  hq : One s q v
  n1 : z ≠ y
  n2 : z ≠ q
  n3 : y ≠ q

theorem ble_no {a b : Nat} (h : b < a) : Nat.ble a b = false := by
  cases hb : Nat.ble a b with
  | false => rfl
  | true => have := Nat.le_of_ble_eq_true hb; omega

theorem run_mb {k d dd : Nat} {v : DV} (h2 : egt e 2 = .ptr (some (z, 0))) (h3 : egt e 3 = .ptr (some (y, 0))) (h5 : egt e 5 = ni dd) (h : Three s z y q (ni k) (ni d) v) (hk : k + 1 ≤ 4194304) :
    ∃ m e' s', exec D m mb e s = some (.norm, e', s') ∧ Three s' z y q (ni (k + 1)) (ni (Nat.max d dd)) v ∧ s'.next = s.next ∧ ∀ a, a ≠ z → a ≠ y → getB s' a = getB s a := by
  obtain ⟨e1, s1, a1, a2, a3, a4, a5⟩ := run_m1 (D := D) h2 h.hz (by unfold imax; omega)
  obtain ⟨e2, b1, b2, b3⟩ := run_m2 (D := D) (lim := 4194304) (e := e1) (s := s1) (z := z) (k := k + 1) (by rw [a5 2 (by omega)]; exact h2) a2
  obtain ⟨e3, s3, c1, c2, c3, c4, c5⟩ := run_m4 (D := D) (e := e2) (s := s1) (y := y) (k := d) (d := dd) (by rw [b3 3 (by omega), a5 3 (by omega)]; exact h3) (by rw [b3 5 (by omega), a5 5 (by omega)]; exact h5) (h.hy.of (a4 y h.n1.symm))
  refine ⟨10, e3, s3, ?_, ⟨a2.of (c4 z h.n1), c2, (h.hq.of (a4 q h.n2.symm)).of (c4 q h.n3.symm), h.n1, h.n2, h.n3⟩, by omega, fun a h1 h2 => by rw [c4 a h2, a4 a h1]⟩
  have q1 := a1 6
  have q2 := b1 5
  have q3 := c1 7
  have hb : egt e2 13 = .bool false := by rw [b2, ble_no (by omega)]
  have e1' : exec D 10 mb e s = blockD 1 (thenD (exec D 8 m4) (thenD (exec D 7 (.seq (m2 4194304) (.cond (t 13) (.seq (m3 802) .ret) .skip))) (exec D 7 m1 e s))) := rfl
  have e2' : ∀ e s, exec D 7 (.seq (m2 4194304) (.cond (t 13) (.seq (m3 802) .ret) .skip)) e s = thenD (fun e s => condD e s (exec D 5 (.seq (m3 802) .ret)) (exec D 5 .skip) (egt e 13)) (exec D 6 (m2 4194304) e s) := fun _ _ => rfl
  rw [e1', q1]
  simp only [thenD]
  rw [e2', q2]
  simp only [thenD, hb, condD]
  have : exec D 5 .skip e2 s1 = some (.norm, e2, s1) := rfl
  rw [this]
  simp only [thenD]
  rw [q3]
  rfl
theorem run_mb' {k d : Nat} {v : DV} (h2 : egt e 2 = .ptr (some (z, 0))) (h3 : egt e 3 = .ptr (some (y, 0))) (h4 : egt e 4 = .ptr (some (q, 0))) (h : Three s z y q (ni k) (ni d) v) (hk : 4194304 ≤ k) (hki : k + 1 ≤ imax) :
    ∃ m e' s', exec D m mb e s = some (.ret, e', s') ∧ Three s' z y q (ni 0) (ni 0) (ni 802) ∧ s'.next = s.next ∧ ∀ a, a ≠ z → a ≠ y → a ≠ q → getB s' a = getB s a := by
  obtain ⟨e1, s1, a1, a2, a3, a4, a5⟩ := run_m1 (D := D) h2 h.hz hki
  obtain ⟨e2, b1, b2, b3⟩ := run_m2 (D := D) (lim := 4194304) (e := e1) (s := s1) (z := z) (k := k + 1) (by rw [a5 2 (by omega)]; exact h2) a2
  obtain ⟨s3, c1, c2, c3, c4, c5, c6⟩ := run_m3 (D := D) (e := e2) (s := s1) (z := z) (y := y) (q := q) (code := 802) (by rw [b3 2 (by omega), a5 2 (by omega)]; exact h2) (by rw [b3 3 (by omega), a5 3 (by omega)]; exact h3) (by rw [b3 4 (by omega), a5 4 (by omega)]; exact h4)
    a2 (h.hy.of (a4 y h.n1.symm)) (h.hq.of (a4 q h.n2.symm)) h.n1 h.n2 h.n3
  refine ⟨10, e2, s3, ?_, ⟨c2, c3, c4, h.n1, h.n2, h.n3⟩, by omega, fun a h1 h2 h3 => by rw [c6 a h1 h2 h3, a4 a h1]⟩
  have q1 := a1 6
  have q2 := b1 5
  have q3 := c1 3
  have hb : egt e2 13 = .bool true := by rw [b2, Nat.ble_eq_true_of_le (by omega)]
  have e1' : exec D 10 mb e s = blockD 1 (thenD (exec D 8 m4) (thenD (exec D 7 (.seq (m2 4194304) (.cond (t 13) (.seq (m3 802) .ret) .skip))) (exec D 7 m1 e s))) := rfl
  have e2' : ∀ e s, exec D 7 (.seq (m2 4194304) (.cond (t 13) (.seq (m3 802) .ret) .skip)) e s = thenD (fun e s => condD e s (exec D 5 (.seq (m3 802) .ret)) (exec D 5 .skip) (egt e 13)) (exec D 6 (m2 4194304) e s) := fun _ _ => rfl
  have e3' : ∀ e s, exec D 5 (.seq (m3 802) .ret) e s = thenD (exec D 4 .ret) (exec D 4 (m3 802) e s) := fun _ _ => rfl
  rw [e1', q1]
  simp only [thenD]
  rw [e2', q2]
  simp only [thenD, hb, condD]
  rw [e3', q3]
  rfl

/-- behind the loop -/
theorem run_mr {k d : Nat} {v : DV} (h2 : egt e 2 = .ptr (some (z, 0))) (h3 : egt e 3 = .ptr (some (y, 0))) (h4 : egt e 4 = .ptr (some (q, 0))) (h : Three s z y q (ni k) (ni d) v) :
    ∃ m e' s', exec D m mr e s = some (.ret, e', s') ∧ (bif Nat.ble 8001 d then Three s' z y q (ni 0) (ni 0) (ni 801) else Three s' z y q (ni k) (ni d) (ni 0)) ∧ s'.next = s.next ∧ (∀ a, a ≠ z → a ≠ y → a ≠ q → getB s' a = getB s a) ∧ ∀ u, u < 10 → egt e' u = egt e u := by
  obtain ⟨e2, b1, b2, b3⟩ := run_m5 (D := D) (lim := 8000) (e := e) (s := s) (z := y) (k := d) h3 h.hy
  have e1' : exec D 10 mr e s = thenD (exec D 9 (.seq m6 .ret)) (thenD (fun e s => condD e s (exec D 7 (.seq (m3 801) .ret)) (exec D 7 .skip) (egt e 18)) (exec D 8 (m5 8000) e s)) := rfl
  have q2 := b1 7
  cases hb : Nat.ble 8001 d with
  | true =>
    obtain ⟨s3, c1, c2, c3, c4, c5, c6⟩ := run_m3 (D := D) (e := e2) (s := s) (z := z) (y := y) (q := q) (code := 801) (by rw [b3 2 (by omega)]; exact h2) (by rw [b3 3 (by omega)]; exact h3) (by rw [b3 4 (by omega)]; exact h4) h.hz h.hy h.hq h.n1 h.n2 h.n3
    refine ⟨10, e2, s3, ?_, ⟨c2, c3, c4, h.n1, h.n2, h.n3⟩, c5, c6, b3⟩
    have q3 := c1 5
    have hb' : egt e2 18 = .bool true := by rw [b2, hb]
    have e3' : ∀ e s, exec D 7 (.seq (m3 801) .ret) e s = thenD (exec D 6 .ret) (exec D 6 (m3 801) e s) := fun _ _ => rfl
    rw [e1', q2]
    simp only [thenD, hb', condD]
    rw [e3', q3]
    rfl
  | false =>
    obtain ⟨e3, s3, c1, c2, c3, c4, c5, c6, c7⟩ := run_m6 (D := D) (e := e2) (s := s) (z := z) (y := y) (q := q) (by rw [b3 2 (by omega)]; exact h2) (by rw [b3 3 (by omega)]; exact h3) (by rw [b3 4 (by omega)]; exact h4) h.hz h.hy h.hq h.n1 h.n2 h.n3
    refine ⟨10, e3, s3, ?_, ⟨c2, c3, c4, h.n1, h.n2, h.n3⟩, c5, c6, fun u hu => by rw [c7 u hu, b3 u hu]⟩
    have q3 := c1 7
    have hb' : egt e2 18 = .bool false := by rw [b2, hb]
    have e3' : ∀ e s, exec D 9 (.seq m6 .ret) e s = thenD (exec D 8 .ret) (exec D 8 m6 e s) := fun _ _ => rfl
    have e4' : exec D 7 .skip e2 s = some (.norm, e2, s) := rfl
    rw [e1', q2]
    simp only [thenD, hb', condD]
    rw [e4']
    simp only [thenD]
    rw [e3', q3]
    rfl
end
end Ms
end Go.D
namespace Go.D
open Go
namespace Ms

/-- no live block of D's lies there -/
def NotIn (ρ : Mp) (s : St) (k : Nat) : Prop := ∀ b x, ρ b = some x → x.blk = k → ¬ live s b

section
variable {P : Program}

theorem NotIn.went {ρ ρ' : Mp} {s s' : St} {w w' : World} {k : Nat} (h : NotIn ρ s k) (hk : k < w.heap.size) (hR : R P ρ s w) (hw : Went P ρ s w ρ' s' w') : NotIn ρ' s' k ∧ w'.heap[k]? = w.heap[k]? := by
  refine ⟨?_, hw.fr.block k hk h⟩
  intro b x e1 e2 hl
  cases e : ρ b with
  | some y =>
    have := hw.le b y e
    rw [this] at e1; injection e1 with e1; subst e1
    exact h b y e e2 (hw.lives b (hR.fresh b y e) hl)
  | none =>
    obtain ⟨_, h2 | ⟨c, y, h3, h4, h5⟩⟩ := hw.newAt b x e1 e
    · omega
    · exact h c y h3 (by omega) h5

theorem R.putObj {ρ : Mp} {s : St} {w : World} (h : R P ρ s w) {l : Nat} (hl : NotIn ρ s l) (ob : Obj) : R P ρ s (w.putObj l ob) where
  fresh := h.fresh
  void := h.void
  there := fun b x e => by rw [World.putObj_size]; exact h.there b x e
  apart := h.apart
  obj := fun b x o e1 e2 => by
    cases o with
    | dead => trivial
    | _ =>
      have hne : x.blk ≠ l := fun e => hl b x e1 e ⟨_, e2, by intro h; cases h⟩
      exact (h.obj b x _ e1 e2).mono (Mp.le_refl _) (World.putObj_heap_other hne)
  glob := h.glob
  lone := h.lone
  fix := fun g cs e n hg h1 => by
    obtain ⟨z, h2, h3, _, _⟩ := h.globAt hg
    have hne : g ≠ l := fun e => hl g z h2 (by omega) ⟨_, h1, by intro h; cases h⟩
    rw [World.putObj_heap_other hne]; exact h.fix g cs e n hg h1

theorem Went.newObj {ρ : Mp} {s : St} {w : World} (h : R P ρ s w) (ob : Obj) : Went P ρ s w ρ s (w.alloc ob) := by
  have old : ∀ k, k < w.heap.size → (w.alloc ob).heap[k]? = w.heap[k]? := fun k hk => by
    show (w.heap.push ob)[k]? = w.heap[k]?
    rw [Array.getElem?_push, if_neg (by omega)]
  exact {
    le := Mp.le_refl _
    rel := {
      fresh := h.fresh
      void := h.void
      there := fun b x e => by rw [World.size_alloc]; have := h.there b x e; omega
      apart := h.apart
      obj := fun b x o e1 e2 => (h.obj b x o e1 e2).mono (Mp.le_refl _) (old _ (h.there b x e1))
      glob := h.glob
      lone := h.lone
      fix := fun g cs e n hg h1 => by
        obtain ⟨_, _, _, _, h5⟩ := h.globAt hg
        rw [old g h5]; exact h.fix g cs e n hg h1 }
    fr := ⟨rfl, rfl, rfl, by rw [World.size_alloc]; omega, fun k hk _ => old k hk⟩
    frD := ⟨Nat.le_refl _, fun _ _ _ => rfl⟩
    lives := fun _ _ h => h
    newAt := fun b x e e' => by rw [e] at e'; cases e' }

/-- from a beginning up to now, with a loop's record at l and the block for its deferred calls at k -/
structure Way (P : Program) (ρ0 : Mp) (s0 : St) (w0 : World) (l k : Nat) (lp : Loop) (ρ : Mp) (s : St) (w : World) : Prop where
  went : Went P ρ0 s0 w0 ρ s w
  nl : NotIn ρ s l
  nk : NotIn ρ s k
  hl : w.heap[l]? = some (.loop lp)
  hk : w.heap[k]? = some (.deferred (some []))
  ol : w0.heap.size ≤ l
  ok : w0.heap.size ≤ k
  ne : k ≠ l

theorem lt_of_get {w : World} {l : Nat} {o : Obj} (h : w.heap[l]? = some o) : l < w.heap.size := (Array.getElem?_eq_some_iff.1 h).1

theorem Way.step {ρ0 ρ ρ' : Mp} {s0 s s' : St} {w0 w w' : World} {l k : Nat} {lp : Loop} (hR0 : R P ρ0 s0 w0) (h : Way P ρ0 s0 w0 l k lp ρ s w) (hw : Went P ρ s w ρ' s' w') : Way P ρ0 s0 w0 l k lp ρ' s' w' := by
  obtain ⟨a1, a2⟩ := h.nl.went (lt_of_get h.hl) h.went.rel hw
  obtain ⟨b1, b2⟩ := h.nk.went (lt_of_get h.hk) h.went.rel hw
  exact ⟨Went.trans hR0 h.went hw, a1, b1, a2.trans h.hl, b2.trans h.hk, h.ol, h.ok, h.ne⟩

theorem Way.put {ρ0 ρ : Mp} {s0 s : St} {w0 w : World} {l k : Nat} {lp : Loop} (h : Way P ρ0 s0 w0 l k lp ρ s w) (lp' : Loop) : Way P ρ0 s0 w0 l k lp' ρ s (w.putObj l (.loop lp')) := by
  refine ⟨?_, h.nl, h.nk, World.putObj_heap_same (lt_of_get h.hl), (World.putObj_heap_other h.ne).trans h.hk, h.ol, h.ok, h.ne⟩
  exact {
    le := h.went.le
    rel := R.putObj h.went.rel h.nl _
    fr := ⟨h.went.fr.os, h.went.fr.tape, h.went.fr.output, by rw [World.putObj_size]; exact h.went.fr.size, fun i hi hn => by
      rw [World.putObj_heap_other (by have := h.ol; omega)]; exact h.went.fr.block i hi hn⟩
    frD := h.went.frD
    lives := h.went.lives
    newAt := h.went.newAt }

/-- a piece of code in a function's own frame -/
theorem piece {D : DProg} (hE : ∀ n, ExecOk P D n) {nn n : Nat} {c : Code} {d : DCode} {ρ : Mp} {s : St} {w : World} {e : Env} {a : Act} {x : Ex} {e' : Env} {s' : St} (hc : codeC P c = some d) (hin : codeIn [] a.tmps.size c = true) (hR : R P ρ s w) (hEn : EnvR ρ e a.tmps)
    (h : exec D n d e s = some (x, e', s')) : c.wpIn Fence.wide nn P (Post [] P ρ s w a x e' s') a w := wpIn_wide.2 (hE n [] c d ρ s w e a x e' s' hc hin hR hEn h)

/-- operations that call nothing, with others behind them -/
theorem runOps_then {fc : Fence} {nn : Nat} (hfn : ∀ f, fc.fn f) {F : List Nat} {call : Caller} {ops : Array Oper} {e' : Env} {s' : St} {rest : List Oper} {Q : Exit → Act → World → Prop} : ∀ (os : List Oper) (ds : List DOper) (ρ : Mp) (s : St) (w : World) (e : Env) (a : Act),
    opersC P ops os = some ds → (ds.all fun o => plainD o.op) = true → (∀ o ∈ os, dstIn F a.tmps.size o.dst = true) → R P ρ s w → EnvR ρ e a.tmps → runOps call ds e s = some (.norm, e', s') →
    (∀ ρ' a' w', Went P ρ s w ρ' s' w' → EnvR ρ' e' a'.tmps → Kept F a a' → wpListIn fc nn P ops Q rest a' w') → wpListIn fc nn P ops Q (os ++ rest) a w
  | [], ds, ρ, s, w, e, a, hc, _, _, hR, hE, h, hq => by
    simp only [opersC] at hc; injection hc with hc; subst hc
    simp only [runOps] at h
    injection h with h; injection h with h4 h5; injection h5 with h5 h6; subst h5; subst h6
    exact hq ρ a w (Went.refl hR) hE (Kept.refl _)
  | o :: os, ds, ρ, s, w, e, a, hc, hpl, hd, hR, hE, h, hq => by
    obtain ⟨d, g, l, rfl, d1, g1, l1⟩ := opersC_cons hc
    simp only [List.all_cons, Bool.and_eq_true] at hpl
    simp only [runOps] at h
    show wpListIn fc nn P ops Q (o :: (os ++ rest)) a w
    unfold wpListIn
    rw [guard_sound hE g1]
    split at h
    · rename_i hg
      rw [if_pos hg]
      refine do_in hfn (F := F) hR hE d1 hpl.1 (hd o (by simp)) h ?_
      intro e1 s1 ρ1 w1 a1 hk1 hw hE1 hka
      exact runOps_then hfn os l ρ1 s1 w1 e1 a1 l1 hpl.2 (fun o' ho' => by rw [hka.size]; exact hd o' (by simp [ho'])) hw.rel hE1 hk1
        (fun ρ' a' w' k1 k2 k3 => hq ρ' a' w' (Went.trans hR hw k1) k2 (hka.trans k3))
    · rename_i hg
      rw [if_neg (by rw [hg]; simp)]
      have hk := Kept.put (hd o (by simp)) undef
      exact ⟨fun f _ => hfn f, runOps_then hfn os l ρ s w _ _ l1 hpl.2 (fun o' ho' => by rw [hk.size]; exact hd o' (by simp [ho'])) hR (hE.put (hd o (by simp)) undefR) h
        (fun ρ' a' w' k1 k2 k3 => hq ρ' a' w' k1 k2 (hk.trans k3))⟩
end
end Ms
end Go.D
namespace Go.D
open Go
namespace Ms

section
variable {P : Program} {D : DProg}

/-- the loop's record -/
def recOf (fnid : FuncId) (tmps : Array Value) (A B : Code) (k : Nat) (st : LoopState) (pe : Option Code) : Loop := { state := st, pending := pe, fn := fnid, tmps := tmps, params := #[8, 9], assign := A, body := B, defers := k }

/-- what is known of the frame that loops -/
structure Outer (P : Program) (A B : Code) (am : Act) (em : Env) (ρm : Mp) (z y q : Nat) : Prop where
  hA : codeC P A = some ma
  hB : codeC P B = some mb
  sA : simpleC A = true
  sB : simpleC B = true
  iA : codeIn [] am.tmps.size A = true
  iB : codeIn [] am.tmps.size B = true
  env : EnvR ρm em am.tmps
  size : 10 ≤ am.tmps.size
  e2 : egt em 2 = .ptr (some (z, 0))
  e3 : egt em 3 = .ptr (some (y, 0))
  e4 : egt em 4 = .ptr (some (q, 0))

theorem run_ma {e : Env} {s : St} {n : Nat} : exec D (n + 1) ma e s = some (.norm, eput e 5 (egt e 8), s) := rfl

theorem round_ok (D : DProg) {A B : Code} {am : Act} {em : Env} {ρm : Mp} {z y q : Nat} (O : Outer P A B am em ρm z y q) {fnid : FuncId} {k l : Nat} {ρ0 ρ : Mp} {s0 s : St} {w0 w : World} (hR0 : R P ρ0 s0 w0)
    (hw : Way P ρ0 s0 w0 l k (recOf fnid am.tmps A B k .ready none) ρ s w) (hm : ρm.le ρ) {size depth d : Nat} {v : DV} (h3 : Three s z y q (ni size) (ni depth) v) {v2 : Value} {dv2 : DV} (hv2 : VR ρ dv2 v2) (hs : size ≤ 4194304) {nn : Nat} :
    RoundIn Fence.wide nn P l fnid ((am.tmps.setIfInBounds 8 (.int .i64 (.ofNat d))).setIfInBounds 9 v2) A B w fun e w' =>
      ∃ ρ' s', ρ.le ρ' ∧ s'.next = s.next ∧ (∀ a, a ≠ z → a ≠ y → a ≠ q → getB s' a = getB s a) ∧
        ((size + 1 ≤ 4194304 ∧ e = .returned (.bool true) ∧ Way P ρ0 s0 w0 l k (recOf fnid am.tmps A B k .ready none) ρ' s' w' ∧ Three s' z y q (ni (size + 1)) (ni (Nat.max depth d)) v) ∨
         (4194304 ≤ size ∧ e = .returned (.bool false) ∧ Way P ρ0 s0 w0 l k (recOf fnid am.tmps A B k .done (some .ret)) ρ' s' w' ∧ Three s' z y q (ni 0) (ni 0) (ni 802))) := by
  refine roundIn_of_wpIn trivial ?_
  have hsz := O.size
  have hE1 := EnvR.put (F := []) (a := { tmps := am.tmps, defers := [] }) (O.env.mono hm) (d := some 8) (by simp [dstIn]; omega) (VR.int (ρ := ρ) .i64 (.ofNat d))
  have hE2 := EnvR.put (F := []) hE1 (d := some 9) (by simp [dstIn, Act.put]; omega) hv2
  have hte : ((Act.put { tmps := am.tmps, defers := [] } (some 8) (.int .i64 (.ofNat d))).put (some 9) v2).tmps = (am.tmps.setIfInBounds 8 (.int .i64 (.ofNat d))).setIfInBounds 9 v2 := rfl
  generalize hT : (am.tmps.setIfInBounds 8 (.int .i64 (.ofNat d))).setIfInBounds 9 v2 = T at hte
  rw [hte] at hE2
  have hTs : T.size = am.tmps.size := by rw [← hT]; simp
  generalize her : put (put em (some 8) (.int .i64 (.ofNat d))) (some 9) dv2 = er at hE2
  have r8 : egt er 8 = ni d := by rw [← her]; simp [put, egt_eput]
  have ro : ∀ u, u < 8 → egt er u = egt em u := fun u hu => by rw [← her]; simp only [put]; rw [egt_eput, if_neg (by omega), egt_eput, if_neg (by omega)]
  refine wpIn_mono (exec_in (D := D) (wide_round_fn l) 1 [] A ma ρ s w er { tmps := T, defers := [] } .norm _ s O.hA O.sA rfl (by rw [hTs]; exact O.iA) hw.went.rel hE2 run_ma) ?_
  intro ex a1 w1 hp
  obtain ⟨ρ1, k1, k2, k3, k4⟩ := hp
  cases ex <;> first | exact k4.elim | skip
  have k2 : EnvR ρ1 (eput er 5 (egt er 8)) a1.tmps := k2
  have hw1 := hw.step hR0 k1
  refine ⟨_, run_beginRound hw1.hl rfl, ?_⟩
  have hw2 := hw1.put { recOf fnid am.tmps A B k .ready none with state := .busy }
  have hsz1 : a1.tmps.size = am.tmps.size := by rw [k3.size]; exact hTs
  have g2 : egt (eput er 5 (egt er 8)) 2 = .ptr (some (z, 0)) := by rw [egt_eput, if_neg (by omega), ro 2 (by omega)]; exact O.e2
  have g3 : egt (eput er 5 (egt er 8)) 3 = .ptr (some (y, 0)) := by rw [egt_eput, if_neg (by omega), ro 3 (by omega)]; exact O.e3
  have g4 : egt (eput er 5 (egt er 8)) 4 = .ptr (some (q, 0)) := by rw [egt_eput, if_neg (by omega), ro 4 (by omega)]; exact O.e4
  have g5 : egt (eput er 5 (egt er 8)) 5 = ni d := by rw [egt_eput, if_pos rfl, r8]
  rcases Nat.lt_or_ge size 4194304 with hlt | hge
  · obtain ⟨m, e', s', b1, b2, b3, b4⟩ := run_mb (D := D) g2 g3 g5 h3 hlt
    refine wpIn_mono (exec_in (D := D) (wide_round_fn l) m [] B mb ρ1 s _ _ a1 .norm e' s' O.hB O.sB rfl (by rw [hsz1]; exact O.iB) hw2.went.rel k2 b1) ?_
    intro ex a2 w2 hp
    obtain ⟨ρ2, j1, j2, j3, j4⟩ := hp
    cases ex <;> first | exact j4.elim | skip
    have hw3 := hw2.step hR0 j1
    refine ⟨_, _, run_endRound none hw3.hl, ρ2, s', Mp.le_trans k1.le j1.le, b3, fun a h1 h2 _ => b4 a h1 h2, .inl ⟨hlt, rfl, ?_, b2⟩⟩
    exact hw3.put _
  · obtain ⟨m, e', s', b1, b2, b3, b4⟩ := run_mb' (D := D) g2 g3 g4 h3 hge (by unfold imax; omega)
    refine wpIn_mono (exec_in (D := D) (wide_round_fn l) m [] B mb ρ1 s _ _ a1 .ret e' s' O.hB O.sB rfl (by rw [hsz1]; exact O.iB) hw2.went.rel k2 b1) ?_
    intro ex a2 w2 hp
    obtain ⟨ρ2, j1, j2, j3, j4⟩ := hp
    cases ex <;> first | exact j4.elim | skip
    have hw3 := hw2.step hR0 j1
    refine ⟨_, _, run_endRound (some .ret) hw3.hl, ρ2, s', Mp.le_trans k1.le j1.le, b3, b4, .inr ⟨hge, rfl, ?_, b2⟩⟩
    exact hw3.put _

/-- the walk's closure, as it is compiled -/
structure WalkFn (P : Program) (el N0 : Nat) (fn : Func) (R0 C1 R2 R3 R5 L2 : Code) (o1 o2 o3 o4 o5 oc on : Oper) (id4 : Nat) (ats : Array TypeId) : Prop where
  hR0 : codeC P R0 = some (r0 el)
  hC1 : codeC P C1 = some c1
  hR2 : codeC P R2 = some (r2 el)
  hR3 : codeC P R3 = some r3
  hR4 : opersC P ⟨[o1, o2, o3, o4, o5, oc, on]⟩ [o1, o2, o3, o4, o5] = some r4
  hon : opersC P ⟨[o1, o2, o3, o4, o5, oc, on]⟩ [on] = some r4b
  ocop : oc.op = .call ⟨.value (.tmp 23), ⟨[.tmp 25, .tmp 27]⟩, ats⟩
  ocd : oc.dst = some 28
  ocg : oc.guard = none
  hR5 : codeC P R5 = some r5
  hL2 : codeC P L2 = some (l2 el)
  inR0 : codeIn [] fn.ntmps R0 = true
  inC1 : codeIn [] fn.ntmps C1 = true
  inR2 : codeIn [] fn.ntmps R2 = true
  inR3 : codeIn [] fn.ntmps R3 = true
  inR4 : ([o1, o2, o3, o4, o5].all fun o => dstIn [] fn.ntmps o.dst) = true
  inon : dstIn [] fn.ntmps on.dst = true
  inR5 : codeIn [] fn.ntmps R5 = true
  inL2 : codeIn [] fn.ntmps L2 = true
  room : 29 ≤ fn.ntmps

/-- how the walk ends -/
def Fin (P : Program) (ρ0 : Mp) (s0 : St) (w0 : World) (l k : Nat) (rc : LoopState → Option Code → Loop) (z y q : Nat) (v : DV) (r : Nat × Nat × Nat) (ρ : Mp) (s : St) (w : World) : Prop :=
  (∃ size depth, Way P ρ0 s0 w0 l k (rc .ready none) ρ s w ∧ Three s z y q (ni size) (ni depth) v ∧ r = bif Nat.ble 8001 depth then (0, 0, 801) else (size, depth, 0)) ∨
  (Way P ρ0 s0 w0 l k (rc .done (some .ret)) ρ s w ∧ Three s z y q (ni 0) (ni 0) (ni 802) ∧ r = (0, 0, 802))

/-- at the loop's head -/
structure Head (P : Program) (el N0 N : Nat) (fn : Func) (ρ0 : Mp) (s0 : St) (w0 : World) (l k : Nat) (lp : Loop) (ρm : Mp) (z y q : Nat) (v : DV) (st : List (Nat × Nat × Nat)) (size depth : Nat) (ρ : Mp) (s : St) (w : World) (e : Env) (a : Act) : Prop where
  way : Way P ρ0 s0 w0 l k lp ρ s w
  three : Three s z y q (ni size) (ni depth) v
  le : ρm.le ρ
  env : EnvR ρ e a.tmps
  room : fn.ntmps ≤ a.tmps.size
  defers : a.defers = []
  e0 : egt e 0 = .func (.yield l) [] []
  stk : Stk el s (egt e 3) st N
  old : ∀ b, b < N0 → getB s b = getB s0 b
  nn : N0 ≤ N
  hz : z < N ∧ y < N ∧ q < N
  hz0 : N0 ≤ z ∧ N0 ≤ y ∧ N0 ≤ q
  deep : ∀ x ∈ st, x.1 ≤ size + 1
  small : size ≤ 4194304

theorem kidsAt_mem {d b : Nat} : ∀ {n o : Nat} {l : List (Nat × Nat × Nat)} {x : Nat × Nat × Nat}, x ∈ kidsAt d b n o l → x.1 = d ∨ x ∈ l
  | 0, _, _, _, h => .inr h
  | n + 1, o, l, x, h => by
    simp only [kidsAt, List.mem_cons] at h
    rcases h with h | h
    · exact .inl (by rw [h])
    · exact kidsAt_mem h

theorem loadN_of {s0 s : St} {N0 : Nat} (hv : ∀ b, N0 ≤ b → getB s0 b = none) (old : ∀ b, b < N0 → getB s b = getB s0 b) {b o n : Nat} {r : List DV} (h : loadN s0 b o n = some r) : loadN s b o n = some r ∧ b < N0 := by
  have hb : b < N0 := by
    rcases Nat.lt_or_ge b N0 with hb | hb
    · exact hb
    · simp only [loadN, hv b hb] at h; cases h
  refine ⟨?_, hb⟩
  simp only [loadN, old b hb]; exact h

theorem kids_of {s : St} {b o : Nat} {c1 c2 c4 c5 : DV} {a : Option (Nat × Nat)} {n : Nat} (h : loadN s b o 5 = some [c1, c2, .slice a n, c4, c5]) : loadN s b (o + 2) 1 = some [.slice a n] := by
  unfold loadN at h ⊢
  split at h
  · rename_i cs ty k hg
    obtain ⟨h1, h2⟩ := grab_eq _ _ _ _ h
    rw [grab_ok _ _ _ (by omega)]
    have : (cs.drop (o + 2)).take 1 = (((cs.drop o).take 5).drop 2).take 1 := by
      rw [List.drop_take, List.take_take, List.drop_drop]
      rfl
    rw [this, ← h2]
    rfl
  · cases h
end
end Ms
end Go.D
