/-
  Its code is sound.
-/
import Derived.Test.YtbecblfbikahkaaGreatDoorDd
import Derived.Tactics
import Derived.LoopN
import Derived.Scope
set_option linter.all false
set_option linter.deprecated false
namespace Go.D
open Go

section
variable {P : Program} {ρ : Mp} {s : St} {w : World}

/-- how a call ends, in the model -/
def EndR (P : Program) (ρ : Mp) (s : St) (w : World) (out : Out) (s' : St) : Ending → World → Prop
  | .returned v, w' => ∃ dv ρ', out = .ret dv ∧ VR ρ' dv v ∧ Went P ρ s w ρ' s' w'
  | .panicked ch, w' => ∃ dv v ρ', out = .pan dv ∧ ch = [{ v, recovered := false }] ∧ VR ρ' dv v ∧ Went P ρ s w ρ' s' w'
  | .outgrown, _ => False

def UponCall (P : Program) (ρ : Mp) (s : St) (w : World) (out : Out) (s' : St) (f : Nat) (args : Array Value) : Prop :=
  ((callFunc f args).run P w = .ok (.enter f args) w ∧ Calls P f args w (EndR P ρ s w out s')) ∨
  ∃ v w', (callFunc f args).run P w = .ok (.value v) w' ∧ EndR P ρ s w out s' (.returned v) w'

def CallOk (P : Program) (call : Caller) : Prop :=
  ∀ (f : Nat) (dargs : List DV) (ρ : Mp) (s : St) (w : World) (args : Array Value) (out : Out) (s' : St), call f dargs s = some (out, s') → R P ρ s w → VRs ρ dargs args.toList → UponCall P ρ s w out s' f args

theorem run_enter {f : Nat} {fn : Func} (hf : P.funcs[f]? = some fn) (hn : (fn.name == "runtime.NumGoroutine") = false) (hb : fn.body.isNone = false) (args : Array Value) : (callFunc f args).run P w = .ok (.enter f args) w := by
  have hn' : fn.name ≠ "runtime.NumGoroutine" := by simpa using hn
  have hb' : fn.body ≠ none := by intro h; rw [h] at hb; cases hb
  simp [callFunc, hf, hn', hb']

/-- how a piece of code ends -/
def ExR (ρ : Mp) : Ex → Exit → Prop
  | .norm, .normal => True
  | .ret, .ret => True
  | .exit i, .exit j => i = j
  | .pan d, .panic ch => ∃ v, VR ρ d v ∧ ch = [{ v, recovered := false }]
  | _, _ => False

/-- one frame behind a piece of code, against the frame ahead of it -/
structure Kept (F : List Nat) (a a' : Act) : Prop where
  size : a'.tmps.size = a.tmps.size
  defers : a'.defers = a.defers
  slots : ∀ t ∈ F, a'.tmps.getD t undef = a.tmps.getD t undef
theorem Kept.refl {F : List Nat} (a : Act) : Kept F a a := ⟨rfl, rfl, fun _ _ => rfl⟩
theorem Kept.trans {F : List Nat} {a b c : Act} (h : Kept F a b) (k : Kept F b c) : Kept F a c := ⟨k.size.trans h.size, k.defers.trans h.defers, fun t ht => (k.slots t ht).trans (h.slots t ht)⟩
/-- its slot lies in the frame, and is none of those that stay -/
def dstIn (F : List Nat) (N : Nat) : Option Tmp → Bool
  | some t => Nat.blt t N && !(F.contains t)
  | none => true
theorem dstIn_lt {F : List Nat} {N t : Nat} (h : dstIn F N (some t) = true) : t + 1 ≤ N ∧ t ∉ F := by
  simp only [dstIn, Bool.and_eq_true, Bool.not_eq_true'] at h
  refine ⟨Nat.le_of_ble_eq_true h.1, fun hm => ?_⟩
  rw [List.contains_iff_mem.2 hm] at h
  exact absurd h.2 (by simp)
theorem Kept.put {F : List Nat} {a : Act} {d : Option Tmp} (hd : dstIn F a.tmps.size d = true) (v : Value) : Kept F a (a.put d v) := by
  cases d with
  | none => exact .refl a
  | some t =>
    refine ⟨by simp [Act.put], rfl, fun u hu => ?_⟩
    have hne : t ≠ u := fun h => by subst h; exact (dstIn_lt hd).2 hu
    simp only [Act.put, Array.getD_eq_getD_getElem?, Array.getElem?_setIfInBounds]
    rw [if_neg hne]

/-- the slots, unless it panics -/
def EnvIf (x : Ex) (ρ : Mp) (e : Env) (tmps : Array Value) : Prop := match x with
  | .pan _ => True
  | _ => EnvR ρ e tmps

def Post (F : List Nat) (P : Program) (ρ : Mp) (s : St) (w : World) (a : Act) (x : Ex) (e' : Env) (s' : St) (ex : Exit) (a' : Act) (w' : World) : Prop :=
  ∃ ρ', Went P ρ s w ρ' s' w' ∧ EnvIf x ρ' e' a'.tmps ∧ Kept F a a' ∧ ExR ρ' x ex

theorem Post.trans {F : List Nat} {ρ1 : Mp} {s1 : St} {w1 : World} {a a1 : Act} (hR : R P ρ s w) (h : Went P ρ s w ρ1 s1 w1) (hk : Kept F a a1) {x : Ex} {e' : Env} {s' : St} {ex : Exit} {a' : Act} {w' : World}
    (h' : Post F P ρ1 s1 w1 a1 x e' s' ex a' w') : Post F P ρ s w a x e' s' ex a' w' := by
  obtain ⟨ρ', k1, k2, k3, k4⟩ := h'
  exact ⟨ρ', Went.trans hR h k1, k2, hk.trans k3, k4⟩

theorem EnvR.put {F : List Nat} {e : Env} {a : Act} (hE : EnvR ρ e a.tmps) {d : Option Tmp} (hd : dstIn F a.tmps.size d = true) {dv : DV} {v : Value} (hv : VR ρ dv v) : EnvR ρ (D.put e d dv) (a.put d v).tmps := by
  cases d with
  | none => exact hE
  | some t =>
    intro u
    rw [egt_put]
    have hd : t + 1 ≤ a.tmps.size := (dstIn_lt hd).1
    simp only [Act.put, Array.getD_eq_getD_getElem?, Array.getElem?_setIfInBounds]
    by_cases hu : u = t
    · subst hu
      have hd : u < a.tmps.size := hd
      simp [hd]; exact hv
    · rw [if_neg hu, if_neg (Ne.symm hu)]
      have := hE u
      rwa [Array.getD_eq_getD_getElem?] at this

/-- a guard is asked alike -/
theorem guard_sound {ops : Array Oper} {e : Env} {tmps : Array Value} (hE : EnvR ρ e tmps) {o : Oper} {g : Option (Nat × Bool)} (hg : guardC ops o.guard = some g) :
    Region.wanted o (yielded ops tmps) = askG e g := by
  unfold Region.wanted
  cases hgu : o.guard with
  | none => rw [hgu] at hg; simp only [guardC] at hg; injection hg with hg; subst hg; rfl
  | some jw =>
    obtain ⟨j, want⟩ := jw
    rw [hgu] at hg
    simp only [guardC] at hg
    split at hg
    · rename_i t ht
      injection hg with hg; subst hg
      simp only [yielded, ht, Option.bind_some, askG]
      have hv := hE t
      generalize egt e t = dv at hv ⊢
      rw [Array.getD_eq_getD_getElem?] at hv
      cases htm : tmps[t]? with
      | none =>
        rw [htm] at hv
        simp only [Option.getD_none, undef] at hv
        cases hv with
        | tuple _ => rfl
      | some u =>
        rw [htm] at hv
        simp only [Option.getD_some] at hv
        cases u with
        | bool b =>
          cases hv
          simp only
          cases b <;> cases want <;> rfl
        | _ => cases hv <;> rfl
    · cases hg

/-- a call of a function's value or of a function -/
theorem upon_call {call : Caller} (hcall : CallOk P call) (hR : R P ρ s w) {f : Nat} {dargs : List DV} {args : Array Value} {out : Out} {s' : St} (h : call f dargs s = some (out, s')) (hV : VRs ρ dargs args.toList)
    {o : Oper} {a : Act} {K : Act → World → Prop} {Q : Exit → Act → World → Prop} (hrun : (execOp a.eval o).run P w = (callFunc f args).run P w)
    (hret : ∀ dv v ρ' w', out = .ret dv → VR ρ' dv v → Went P ρ s w ρ' s' w' → K (a.put o.dst v) w')
    (hpan : ∀ dv v ρ' w', out = .pan dv → VR ρ' dv v → Went P ρ s w ρ' s' w' → Q (.panic [{ v, recovered := false }]) a w') : o.wp P a w K Q := by
  unfold Oper.wp
  rw [hrun]
  rcases hcall f dargs ρ s w args out s' h hR hV with ⟨h1, h2⟩ | ⟨v, w', h1, h2⟩
  · rw [h1, Oper.upon_enter]
    refine Calls.mono h2 ?_
    intro e w' he
    cases e with
    | returned v => obtain ⟨dv, ρ', k1, k2, k3⟩ := he; exact hret dv v ρ' w' k1 k2 k3
    | panicked ch => obtain ⟨dv, v, ρ', k1, rfl, k2, k3⟩ := he; exact hpan dv v ρ' w' k1 k2 k3
    | outgrown => exact he.elim
  · rw [h1, Oper.upon_value]
    obtain ⟨dv, ρ', k1, k2, k3⟩ := h2
    exact hret dv v ρ' w' k1 k2 k3

/-- it calls nothing, and leaves by its end -/
def plainD : DOp → Bool
  | .call _ _ | .callV _ _ | .panic _ | .apart _ _ | .same _ _ => false
  | _ => true

theorem doOp_plain {call : Caller} {dst : Option Nat} {d : DOp} (h : plainD d = true) {e : Env} {s : St} {k : Env → St → Going} : doOp call dst d e s k = afterOp dst e k (opD e s d) := by
  cases d <;> first | rfl | cases h

theorem builtinC_plain {b : Builtin} {ts : List TypeId} {xs : List Opd} {d : DOp} (hc : builtinC P b ts xs = some d) : plainD d = true := by
  unfold builtinC at hc
  repeat' (first | contradiction | (cases hc; done) | (injection hc with hc; subst hc; rfl) | (have hc := bif_some hc; subst hc; rfl) | (obtain ⟨_, _, hc⟩ := obind hc) | split at hc)

theorem bif_some {α : Type} {c : Bool} {x y : α} (h : (bif c then some x else none) = some y) : x = y := by
  cases c
  · cases h
  · injection h

theorem opC_kind {o : Oper} {d : DOp} (hc : opC P o = some d) : plainD d = true ∨
    (∃ c f xs, o.op = .call c ∧ c.callee = .value (.func f) ∧ opdsC P c.args.toList = some xs ∧ d = .call f xs) ∨
    (∃ c x q xs, o.op = .call c ∧ c.callee = .value x ∧ opdC P x = some q ∧ opdsC P c.args.toList = some xs ∧ d = .callV q xs) ∨
    (∃ x q, o.op = .panic x ∧ opdC P x = some q ∧ d = .panic q) := by
  unfold opC at hc
  cases hop : o.op with
  | call c =>
    rw [hop] at hc; simp only at hc
    obtain ⟨xs, x1, hc⟩ := obind hc
    split at hc
    · rename_i f hf
      injection hc with hc; subst hc
      exact .inr (.inl ⟨c, f, xs, rfl, hf, x1, rfl⟩)
    · rename_i x _ hf
      obtain ⟨q, q1, q2⟩ := obind hc; injection q2 with q2; subst q2
      exact .inr (.inr (.inl ⟨c, x, q, xs, rfl, hf, q1, x1, rfl⟩))
    · exact .inl (builtinC_plain hc)
    · cases hc
  | panic x =>
    rw [hop] at hc; simp only at hc
    obtain ⟨q, q1, q2⟩ := obind hc; injection q2 with q2; subst q2
    exact .inr (.inr (.inr ⟨x, q, rfl, q1, rfl⟩))
  | _ =>
    rw [hop] at hc
    refine .inl ?_
    simp only at hc
    repeat' (first | contradiction | (cases hc; done) | (injection hc with hc; subst hc; rfl) | (have hc := bif_some hc; subst hc; rfl) | (obtain ⟨_, _, hc⟩ := obind hc) | split at hc)

/-- what one operation does, with what follows -/
theorem do_sound {F : List Nat} {call : Caller} (hcall : CallOk P call) (hR : R P ρ s w) {e : Env} {a : Act} (hE : EnvR ρ e a.tmps) {o : Oper} {d : DOp} (hc : opC P o = some d) (hd : dstIn F a.tmps.size o.dst = true)
    {k : Env → St → Going} {x : Ex} {e' : Env} {s' : St} (h : doOp call o.dst d e s k = some (x, e', s'))
    {K : Act → World → Prop} {Q : Exit → Act → World → Prop}
    (hk : ∀ e1 s1 ρ1 w1 a1, k e1 s1 = some (x, e', s') → Went P ρ s w ρ1 s1 w1 → EnvR ρ1 e1 a1.tmps → Kept F a a1 → K a1 w1)
    (hq : ∀ ex a' w', Post F P ρ s w a x e' s' ex a' w' → Q ex a' w') : o.wp P a w K Q := by
  have hcl : ∀ f dargs (args : Array Value), (execOp a.eval o).run P w = (callFunc f args).run P w → VRs ρ dargs args.toList →
      afterCall o.dst e k (call f dargs s) = some (x, e', s') → o.wp P a w K Q := by
    intro f dargs args hrun hV h
    cases hcf : call f dargs s with
    | none => rw [hcf] at h; cases h
    | some r =>
      obtain ⟨out, t⟩ := r
      rw [hcf] at h
      refine upon_call hcall hR hcf hV hrun ?_ ?_
      · intro dv v ρ' w' h1 h2 h3
        subst h1
        exact hk _ _ ρ' w' _ h h3 ((hE.mono h3.le).put hd h2) (Kept.put hd _)
      · intro dv v ρ' w' h1 h2 h3
        subst h1
        simp only [afterCall] at h
        injection h with h; injection h with h4 h5; injection h5 with h5 h6; subst h4; subst h5; subst h6
        exact hq _ _ _ ⟨ρ', h3, trivial, Kept.refl _, v, h2, rfl⟩
  have hop : ∀ (r : Option (DV × St)), opD e s d = r → afterOp o.dst e k r = some (x, e', s') → o.wp P a w K Q := by
    intro r hr h
    cases r with
    | none => cases h
    | some q =>
      obtain ⟨dv, t⟩ := q
      obtain ⟨ρ', w', v, h1, h2, h3⟩ := op_sound hR hE hc hr
      unfold Oper.wp
      rcases h1 with h1 | ⟨h1, rfl⟩
      · rw [h1, Oper.upon_value]
        exact hk _ _ ρ' w' _ h h3 ((hE.mono h3.le).put hd h2) (Kept.put hd _)
      · rw [h1, Oper.upon_skip]
        exact hk _ _ ρ' w' _ h h3 ((hE.mono h3.le).put hd h2) (Kept.put hd _)
  rcases opC_kind hc with hp | ⟨c, f, xs, hop', hcal, hxs, rfl⟩ | ⟨c, y, q, xs, hop', hcal, hq', hxs, rfl⟩ | ⟨y, q, hop', hq', rfl⟩
  · rw [doOp_plain hp] at h
    exact hop _ rfl h
  · have hV := evs_sound hR hE hxs
    have e1 : c.args.map a.eval = (c.args.toList.map a.eval).toArray := by apply Array.ext'; rw [Array.toList_map]
    refine hcl f (evs e xs) (c.args.map a.eval) ?_ (by rw [Array.toList_map]; exact hV) h
    simp only [execOp, hop', resolve, hcal, Act.eval, Deferred.ofValue, Sem.run_bind, Sem.run_pure, Result.andThen_ok, invoke]
    congr 2
    simp
  · have hV := evs_sound hR hE hxs
    have hy := ev_sound hR hE hq'
    have h : afterCall o.dst e k (callVal call (ev e q) (evs e xs) s) = some (x, e', s') := h
    unfold callVal at h
    split at h
    · rename_i f first cap hfv
      rw [hfv] at hy
      generalize hval : a.eval y = val at hy
      cases hy with
      | @func _ _ _ first' cap' h1 h2 =>
        refine hcl f _ (first' ++ c.args.map a.eval ++ cap') ?_ ?_ h
        · simp only [execOp, hop', resolve, hcal, hval, Deferred.ofValue, Sem.run_bind, Sem.run_pure, Result.andThen_ok, invoke]
        · simp only [Array.toList_append, Array.toList_map, List.append_assoc]
          exact h1.append (hV.append h2)
    · cases h
  · have hy := ev_sound hR hE hq'
    have h : panicD e s (ev e q) = some (x, e', s') := h
    unfold panicD at h
    split at h
    · rename_i t v hfv
      rw [hfv] at hy
      generalize hval : a.eval y = val at hy
      injection h with h; injection h with h4 h5; injection h5 with h5 h6; subst h4; subst h5; subst h6
      unfold Oper.wp
      have hrun : (execOp a.eval o).run P w = .halt (.panic val) w := by
        cases hy with
        | iface _ hh =>
          simp only [execOp, hop', hval, Instr.panic]
          rfl
      rw [hrun, Oper.upon_panic]
      exact hq _ _ _ ⟨ρ, Went.refl hR, trivial, Kept.refl _, val, hy, rfl⟩
    · cases h

theorem opersC_cons {ops : Array Oper} {o : Oper} {os : List Oper} {ds : List DOper} (h : opersC P ops (o :: os) = some ds) : ∃ d g l, ds = ⟨o.dst, d, g⟩ :: l ∧ opC P o = some d ∧ guardC ops o.guard = some g ∧ opersC P ops os = some l := by
  simp only [opersC] at h
  split at h
  · rename_i x l h1 h2
    injection h with h; subst h
    obtain ⟨d, d1, h1⟩ := obind h1
    obtain ⟨g, g1, h1⟩ := obind h1
    injection h1 with h1; subst h1
    exact ⟨d, g, l, rfl, d1, g1, h2⟩
  · cases h

theorem undefR : VR ρ undefD undef := .tuple .nil

/-- operations in their order -/
theorem runOps_sound {F : List Nat} {call : Caller} (hcall : CallOk P call) {ops : Array Oper} {x : Ex} {e' : Env} {s' : St} : ∀ (os : List Oper) (ds : List DOper) (ρ : Mp) (s : St) (w : World) (e : Env) (a : Act) (Q : Exit → Act → World → Prop),
    opersC P ops os = some ds → (∀ o ∈ os, dstIn F a.tmps.size o.dst = true) → R P ρ s w → EnvR ρ e a.tmps → runOps call ds e s = some (x, e', s') →
    (∀ ex a' w', Post F P ρ s w a x e' s' ex a' w' → Q ex a' w') → wpList P ops Q os a w
  | [], ds, ρ, s, w, e, a, Q, hc, _, hR, hE, h, hq => by
    simp only [opersC] at hc; injection hc with hc; subst hc
    simp only [runOps] at h
    injection h with h; injection h with h4 h5; injection h5 with h5 h6; subst h4; subst h5; subst h6
    exact hq _ _ _ ⟨ρ, Went.refl hR, hE, Kept.refl _, trivial⟩
  | o :: os, ds, ρ, s, w, e, a, Q, hc, hd, hR, hE, h, hq => by
    obtain ⟨d, g, l, rfl, d1, g1, l1⟩ := opersC_cons hc
    simp only [runOps] at h
    unfold wpList
    rw [guard_sound hE g1]
    split at h
    · rename_i hg
      rw [if_pos hg]
      refine .inl (do_sound hcall hR hE d1 (hd o (by simp)) h ?_ hq)
      intro e1 s1 ρ1 w1 a1 hk1 hw hE1 hka
      exact runOps_sound hcall os l ρ1 s1 w1 e1 a1 Q l1 (fun o' ho' => by rw [hka.size]; exact hd o' (by simp [ho'])) hw.rel hE1 hk1
        (fun ex a' w' hp => hq ex a' w' (hp.trans hR hw hka))
    · rename_i hg
      rw [if_neg (by rw [hg]; simp)]
      exact runOps_sound hcall os l ρ s w _ _ Q l1 (fun o' ho' => by rw [(Kept.put (hd o (by simp)) _).size]; exact hd o' (by simp [ho'])) hR (hE.put (hd o (by simp)) undefR) h
        (fun ex a' w' hp => hq ex a' w' (hp.trans hR (Went.refl hR) (Kept.put (hd o (by simp)) _)))
end
end Go.D
namespace Go.D
open Go

/-- every slot that a code writes lies in the frame -/
def codeIn (F : List Nat) (N : Nat) : Code → Bool
  | .region _ ops _ => ops.toList.all fun o => dstIn F N o.dst
  | .seq a b => codeIn F N a && codeIn F N b
  | .cond _ a b => codeIn F N a && codeIn F N b
  | .block _ b => codeIn F N b
  | .loop b => codeIn F N b
  | .scope b => codeIn F N b
  | _ => true

def ExecOk (P : Program) (D : DProg) (n : Nat) : Prop :=
  ∀ (F : List Nat) (c : Code) (d : DCode) (ρ : Mp) (s : St) (w : World) (e : Env) (a : Act) (x : Ex) (e' : Env) (s' : St), codeC P c = some d → codeIn F a.tmps.size c = true → R P ρ s w → EnvR ρ e a.tmps →
    exec D n d e s = some (x, e', s') → c.wp P (Post F P ρ s w a x e' s') a w

def DrawOk (P : Program) : Prop :=
  ∀ (F : List Nat) (call : Caller) (ops : Array Oper) (ds : List DOper) (id : Nat) (ρ : Mp) (s : St) (w : World) (e : Env) (a : Act) (x : Ex) (e' : Env) (s' : St), CallOk P call → drawC P ops = some ds →
    (∀ o ∈ ops.toList, dstIn F a.tmps.size o.dst = true) → R P ρ s w → EnvR ρ e a.tmps → runOps call ds e s = some (x, e', s') → (Code.region id ops true).wp P (Post F P ρ s w a x e' s') a w

def DOk (P : Program) (D : DProg) : Prop := ∀ n, (∀ m, m ≤ n → ExecOk P D m) → CallOk P (callF D (exec D n))

def LoopOk (P : Program) (D : DProg) (n : Nat) : Prop :=
  ∀ (F : List Nat) (c : Code) (d : DCode) (ρ : Mp) (s : St) (w : World) (e : Env) (a : Act) (x : Ex) (e' : Env) (s' : St) (Q : Exit → Act → World → Prop), codeC P c = some d → codeIn F a.tmps.size c = true → R P ρ s w → EnvR ρ e a.tmps →
    exec D n (.loop d) e s = some (x, e', s') → (∀ ex a' w', Post F P ρ s w a x e' s' ex a' w' → Q ex a' w') → Code.rounds P c Q n a w

section
variable {P : Program} {D : DProg}

theorem seq_sound {F : List Nat} {ρ : Mp} {s : St} {w : World} {a : Act} {x : Ex} {e' : Env} {s' : St} {c : Code} {r : Going} {k : Env → St → Going} {next : Act → World → Prop} {Q : Exit → Act → World → Prop} (hR : R P ρ s w)
    (h : thenD k r = some (x, e', s')) (hc : ∀ y e1 s1, r = some (y, e1, s1) → c.wp P (Post F P ρ s w a y e1 s1) a w)
    (hk : ∀ e1 s1 ρ1 w1 a1, k e1 s1 = some (x, e', s') → Went P ρ s w ρ1 s1 w1 → EnvR ρ1 e1 a1.tmps → Kept F a a1 → next a1 w1)
    (hq : ∀ ex a' w', Post F P ρ s w a x e' s' ex a' w' → Q ex a' w') : c.wp P (Exit.then next Q) a w := by
  cases r with
  | none => cases h
  | some q =>
    obtain ⟨y, e1, s1⟩ := q
    refine wp_mono (hc y e1 s1 rfl) ?_
    intro ex a1 w1 hp
    obtain ⟨ρ1, k1, k2, k3, k4⟩ := hp
    cases y with
    | norm =>
      cases ex <;> first | exact k4.elim | skip
      exact hk e1 s1 ρ1 w1 a1 h k1 k2 k3
    | ret =>
      cases ex <;> first | exact k4.elim | skip
      injection h with h; injection h with h4 h5; injection h5 with h5 h6; subst h4; subst h5; subst h6
      exact hq _ _ _ ⟨ρ1, k1, k2, k3, trivial⟩
    | exit i =>
      cases ex <;> first | exact k4.elim | skip
      injection h with h; injection h with h4 h5; injection h5 with h5 h6; subst h4; subst h5; subst h6
      exact hq _ _ _ ⟨ρ1, k1, k2, k3, k4⟩
    | pan d =>
      cases ex <;> first | exact k4.elim | skip
      injection h with h; injection h with h4 h5; injection h5 with h5 h6; subst h4; subst h5; subst h6
      exact hq _ _ _ ⟨ρ1, k1, k2, k3, k4⟩

theorem loop_sound {n : Nat} (hE : ExecOk P D n) (hL : LoopOk P D n) : LoopOk P D (n + 1) := by
  intro F c d ρ s w e a x e' s' Q hc hin hR hEn h hq
  simp only [exec] at h
  rw [rounds_succ]
  refine seq_sound hR h (fun y e1 s1 hy => hE F c d ρ s w e a y e1 s1 hc hin hR hEn hy) ?_ hq
  intro e1 s1 ρ1 w1 a1 hk hw hE1 hka
  exact hL F c d ρ1 s1 w1 e1 a1 x e' s' Q hc (by rw [hka.size]; exact hin) hw.rel hE1 hk (fun ex a' w' hp => hq ex a' w' (hp.trans hR hw hka))

theorem exec_step (hD : DOk P D) (hdraw : DrawOk P) {n : Nat} (hEs : ∀ m, m ≤ n → ExecOk P D m) (hL : LoopOk P D (n + 1)) : ExecOk P D (n + 1) := by
  have hE := hEs n (Nat.le_refl n)
  intro F c
  induction c with
  | skip =>
    intro d ρ s w e a x e' s' hc hin hR hEn h
    simp only [codeC] at hc; injection hc with hc; subst hc
    simp only [exec] at h; injection h with h; injection h with h4 h5; injection h5 with h5 h6; subst h4; subst h5; subst h6
    exact wp_skip ⟨ρ, Went.refl hR, hEn, Kept.refl _, trivial⟩
  | label l =>
    intro d ρ s w e a x e' s' hc hin hR hEn h
    simp only [codeC] at hc; injection hc with hc; subst hc
    simp only [exec] at h; injection h with h; injection h with h4 h5; injection h5 with h5 h6; subst h4; subst h5; subst h6
    exact wp_label ⟨ρ, Went.refl hR, hEn, Kept.refl _, trivial⟩
  | region id ops draw =>
    intro d ρ s w e a x e' s' hc hin hR hEn h
    simp only [codeIn, List.all_eq_true] at hin
    cases draw with
    | false =>
      simp only [codeC] at hc
      cases ho : opersC P ops ops.toList with
      | none => rw [ho] at hc; cases hc
      | some ds =>
        rw [ho] at hc; injection hc with hc; subst hc
        exact wp_region_list (runOps_sound (hD n hEs) ops.toList ds ρ s w e a _ ho hin hR hEn h (fun _ _ _ h => h))
    | true =>
      simp only [codeC] at hc
      cases ho : drawC P ops with
      | none => rw [ho] at hc; cases hc
      | some ds =>
        rw [ho] at hc; injection hc with hc; subst hc
        exact hdraw F _ ops ds id ρ s w e a x e' s' (hD n hEs) ho hin hR hEn h
  | seq p q _ _ =>
    intro d ρ s w e a x e' s' hc hin hR hEn h
    simp only [codeIn, Bool.and_eq_true] at hin
    simp only [codeC] at hc
    split at hc
    · rename_i dp dq h1 h2
      injection hc with hc; subst hc
      simp only [exec] at h
      refine wp_seq (seq_sound hR h (fun y e1 s1 hy => hE F p dp ρ s w e a y e1 s1 h1 hin.1 hR hEn hy) ?_ (fun _ _ _ h => h))
      intro e1 s1 ρ1 w1 a1 hk hw hE1 hka
      exact wp_mono (hE F q dq ρ1 s1 w1 e1 a1 x e' s' h2 (by rw [hka.size]; exact hin.2) hw.rel hE1 hk) (fun ex a' w' hp => hp.trans hR hw hka)
    · cases hc
  | cond c p q _ _ =>
    intro d ρ s w e a x e' s' hc hin hR hEn h
    simp only [codeIn, Bool.and_eq_true] at hin
    simp only [codeC] at hc
    split at hc
    · rename_i z dp dq h1 h2 h3
      injection hc with hc; subst hc
      simp only [exec] at h
      have hz := ev_sound hR hEn h1
      unfold condD at h
      split at h
      · rename_i hb
        rw [hb] at hz
        exact wp_cond_true (bool_eq hz) (hE F p dp ρ s w e a x e' s' h2 hin.1 hR hEn h)
      · rename_i hb
        rw [hb] at hz
        exact wp_cond_false (bool_eq hz) (hE F q dq ρ s w e a x e' s' h3 hin.2 hR hEn h)
      · cases h
    · cases hc
  | block id b _ =>
    intro d ρ s w e a x e' s' hc hin hR hEn h
    simp only [codeIn] at hin
    simp only [codeC] at hc
    cases hb : codeC P b with
    | none => rw [hb] at hc; cases hc
    | some db =>
      rw [hb] at hc; injection hc with hc; subst hc
      simp only [exec] at h
      cases hr : exec D n db e s with
      | none => rw [hr] at h; cases h
      | some r =>
        obtain ⟨y, e1, s1⟩ := r
        rw [hr] at h
        refine wp_block (wp_mono (hE F b db ρ s w e a y e1 s1 hb hin hR hEn hr) ?_)
        intro ex a1 w1 hp
        obtain ⟨ρ1, k1, k2, k3, k4⟩ := hp
        cases y with
        | exit i =>
          cases ex <;> first | exact k4.elim | skip
          rename_i j
          have k4 : i = j := k4
          subst k4
          simp only [blockD] at h
          simp only [Exit.inBlock]
          rcases Bool.eq_false_or_eq_true (Nat.beq i id) with n4 | n4
          · rw [bif_true n4] at h
            rw [if_pos (Nat.eq_of_beq_eq_true n4)]
            injection h with h; injection h with h4 h5; injection h5 with h5 h6; subst h4; subst h5; subst h6
            exact ⟨ρ1, k1, k2, k3, trivial⟩
          · rw [bif_false n4] at h
            rw [if_neg (fun hh => by subst hh; rw [Nat.beq_refl] at n4; cases n4)]
            injection h with h; injection h with h4 h5; injection h5 with h5 h6; subst h4; subst h5; subst h6
            exact ⟨ρ1, k1, k2, k3, rfl⟩
        | norm =>
          cases ex <;> first | exact k4.elim | skip
          injection h with h; injection h with h4 h5; injection h5 with h5 h6; subst h4; subst h5; subst h6
          exact ⟨ρ1, k1, k2, k3, trivial⟩
        | ret =>
          cases ex <;> first | exact k4.elim | skip
          injection h with h; injection h with h4 h5; injection h5 with h5 h6; subst h4; subst h5; subst h6
          exact ⟨ρ1, k1, k2, k3, trivial⟩
        | pan v =>
          cases ex <;> first | exact k4.elim | skip
          injection h with h; injection h with h4 h5; injection h5 with h5 h6; subst h4; subst h5; subst h6
          exact ⟨ρ1, k1, k2, k3, k4⟩
  | loop b _ =>
    intro d ρ s w e a x e' s' hc hin hR hEn h
    simp only [codeIn] at hin
    simp only [codeC] at hc
    cases hb : codeC P b with
    | none => rw [hb] at hc; cases hc
    | some db =>
      rw [hb] at hc; injection hc with hc; subst hc
      exact wp_loop_rounds (n + 1) (hL F b db ρ s w e a x e' s' _ hb hin hR hEn h (fun _ _ _ h => h))
  | exit id =>
    intro d ρ s w e a x e' s' hc hin hR hEn h
    simp only [codeC] at hc; injection hc with hc; subst hc
    simp only [exec] at h; injection h with h; injection h with h4 h5; injection h5 with h5 h6; subst h4; subst h5; subst h6
    exact wp_exit ⟨ρ, Went.refl hR, hEn, Kept.refl _, rfl⟩
  | ret =>
    intro d ρ s w e a x e' s' hc hin hR hEn h
    simp only [codeC] at hc; injection hc with hc; subst hc
    simp only [exec] at h; injection h with h; injection h with h4 h5; injection h5 with h5 h6; subst h4; subst h5; subst h6
    exact wp_ret ⟨ρ, Went.refl hR, hEn, Kept.refl _, trivial⟩
  | scope b ih =>
    intro d ρ s w e a x e' s' hc hin hR hEn h
    simp only [codeIn] at hin
    simp only [codeC] at hc
    refine wp_scope_straight (wp_mono (ih d ρ s w e a x e' s' hc hin hR hEn h) ?_)
    intro ex a1 w1 hp
    cases ex with
    | goto l =>
      obtain ⟨ρ1, k1, k2, k3, k4⟩ := hp
      cases x <;> exact k4.elim
    | _ => exact hp
  | _ => intro d ρ s w e a x e' s' hc; simp only [codeC] at hc; cases hc

theorem exec_ok (hD : DOk P D) (hdraw : DrawOk P) : ∀ n, (∀ m, m ≤ n → ExecOk P D m) ∧ LoopOk P D n
  | 0 => ⟨(by intro m hm F c d ρ s w e a x e' s' _ _ _ _ h; rw [Nat.le_zero.1 hm] at h; cases h), (by intro F c d ρ s w e a x e' s' Q _ _ _ _ h; cases h)⟩
  | n + 1 => by
    have ih := exec_ok hD hdraw n
    have hL := loop_sound (ih.1 n (Nat.le_refl n)) ih.2
    have hE := exec_step hD hdraw ih.1 hL
    refine ⟨fun m hm => ?_, hL⟩
    rcases Nat.lt_or_ge m (n + 1) with h | h
    · exact ih.1 m (by omega)
    · have : m = n + 1 := by omega
      subst this; exact hE
end
end Go.D
namespace Go.D
open Go

theorem codeIn_mono {F : List Nat} {N M : Nat} (h : N ≤ M) : ∀ {c : Code}, codeIn F N c = true → codeIn F M c = true
  | .region _ ops _, hc => by
    simp only [codeIn, List.all_eq_true] at hc ⊢
    intro o ho
    have := hc o ho
    cases hd : o.dst with
    | none => rfl
    | some t =>
      rw [hd] at this
      obtain ⟨h3, h4⟩ := dstIn_lt this
      have h2 : t + 1 ≤ M := Nat.le_trans h3 h
      simp only [dstIn, Bool.and_eq_true, Bool.not_eq_true']
      refine ⟨Nat.ble_eq_true_of_le h2, ?_⟩
      cases hc : F.contains t with
      | false => rfl
      | true => exact absurd (List.contains_iff_mem.1 hc) h4
  | .seq a b, hc => by simp only [codeIn, Bool.and_eq_true] at hc ⊢; exact ⟨codeIn_mono h hc.1, codeIn_mono h hc.2⟩
  | .cond _ a b, hc => by simp only [codeIn, Bool.and_eq_true] at hc ⊢; exact ⟨codeIn_mono h hc.1, codeIn_mono h hc.2⟩
  | .block _ b, hc => by simp only [codeIn] at hc ⊢; exact codeIn_mono h hc
  | .loop b, hc => by simp only [codeIn] at hc ⊢; exact codeIn_mono h hc
  | .scope b, hc => by simp only [codeIn] at hc ⊢; exact codeIn_mono h hc
  | .skip, _ | .label _, _ | .exit _, _ | .goto _, _ | .ret, _ | .rangeFunc _ _ _ _, _ | .refuse _, _ => rfl

section
variable {P : Program} {ρ : Mp} {s : St} {w : World}

theorem envOf_sound {dargs : List DV} {args : Array Value} (hV : VRs ρ dargs args.toList) (k : Nat) : EnvR ρ (envOf dargs 0 .leaf) (args ++ Array.replicate k undef) := by
  intro u
  rw [egt_envOf, if_neg (by omega), Nat.sub_zero]
  have hl := hV.length
  simp only [Array.length_toList] at hl
  rw [Array.getD_eq_getD_getElem?]
  by_cases h : u < dargs.length
  · have h1 : dargs[u]? = some dargs[u] := List.getElem?_eq_getElem h
    obtain ⟨v, h2, h3⟩ := hV.get u _ h1
    rw [Array.getElem?_append_left (by omega)]
    rw [Array.getElem?_toList] at h2
    rw [h1, h2]
    exact h3
  · rw [List.getElem?_eq_none (by omega), Array.getElem?_append_right (by omega)]
    have : ((Array.replicate k undef)[u - args.size]?).getD undef = undef := by
      rw [Array.getElem?_replicate]
      split <;> rfl
    rw [this]
    show VR ρ (egt .leaf u) undef
    rw [egt_leaf]
    exact undefR

theorem result_sound (hR : R P ρ s w) {e : Env} {tmps : Array Value} (hE : EnvR ρ e tmps) {gf : ResultVar → Sem Value} (hg1 : ∀ t, gf (.tmp t) = pure (tmps.getD t undef))
    (hg2 : ∀ a t, gf (.cell a t) = (do loadVar t (← asAddr (tmps.getD a undef)))) : ∀ {rv : List ResultVar} {rs : List DRes} {l : List DV}, resC P rv = some rs → resultsD e s rs = some l →
    ∃ vs : List Value, (rv.mapM gf).run P w = .ok vs w ∧ VRs ρ l vs
  | [], rs, l, hc, h => by
    simp only [resC] at hc; injection hc with hc; subst hc
    simp only [resultsD] at h; injection h with h; subst h
    exact ⟨[], by simp, .nil⟩
  | .tmp t :: r, rs, l, hc, h => by
    simp only [resC] at hc
    cases hr : resC P r with
    | none => rw [hr] at hc; cases hc
    | some q =>
      rw [hr] at hc; injection hc with hc; subst hc
      simp only [resultsD, resultD] at h
      split at h
      · rename_i l' hl
        injection h with h; subst h
        obtain ⟨vs, h1, h2⟩ := result_sound hR hE hg1 hg2 hr hl
        refine ⟨tmps.getD t undef :: vs, ?_, .cons (hE t) h2⟩
        rw [List.mapM_cons, hg1]
        simp only [Sem.run_bind, Sem.run_pure, Result.andThen_ok, h1]
      · cases h
  | .cell a t :: r, rs, l, hc, h => by
    simp only [resC] at hc
    split at hc
    · rename_i g n q hg hn hr
      injection hc with hc; subst hc
      simp only [resultsD] at h
      split at h
      · rename_i v hv
        split at h
        · rename_i l' hl
          injection h with h; subst h
          obtain ⟨vs, h1, h2⟩ := result_sound hR hE hg1 hg2 hr hl
          simp only [resultD] at hv
          have ha := hE a
          split at hv
          · rename_i b o hb
            rw [hb] at ha
            obtain ⟨_, v', k1, k2⟩ := s_loadL hR hg hn ha (dv := v) (s' := s) (by simp only [opLoad]; rw [hv]; rfl)
            refine ⟨v' :: vs, ?_, .cons k2 h2⟩
            rw [List.mapM_cons, hg2]
            generalize hval : tmps.getD a undef = val at ha k1
            cases ha with
            | @ptr _ _ x hb' =>
              simp only [Instr.loadAt, Instr.sureAddr, Sem.run_bind, Sem.run_pure, Result.andThen_ok] at k1
              simp only [asAddr, Sem.run_bind, Sem.run_pure, Result.andThen_ok, k1, h1]
          · cases hv
        · cases h
      · cases h
    · cases hc

theorem oneOf_sound {l : List DV} {vs : List Value} (h : VRs ρ l vs) : VR ρ (oneOf l) (if h : vs.toArray.size = 1 then vs.toArray[0] else .tuple vs.toArray) := by
  cases h with
  | nil => exact .tuple .nil
  | @cons v v' l l' h t =>
    cases t with
    | nil => exact h
    | @cons u u' m m' k t =>
      have : oneOf (v :: u :: m) = .tuple (v :: u :: m) := rfl
      rw [this, dif_neg (by simp)]
      exact .tuple (.cons h (.cons k t))

theorem give_sound (hR : R P ρ s w) {e : Env} {tmps : Array Value} (hE : EnvR ρ e tmps) {fn : Func} {rs : List DRes} {out : Out} {s' : St} (hc : resC P fn.results.toList = some rs) (h : giveD e s rs = some (out, s')) :
    ∃ dv v, out = .ret dv ∧ s' = s ∧ (results fn tmps).run P w = .ok v w ∧ VR ρ dv v := by
  unfold giveD at h
  split at h
  · rename_i l hl
    injection h with h; injection h with h1 h2; subst h1; subst h2
    obtain ⟨vs, h1, h2⟩ := result_sound hR hE (gf := fun
      | .tmp t => pure (tmps.getD t undef)
      | .cell a t => do loadVar t (← asAddr (tmps.getD a undef))) (fun _ => rfl) (fun _ _ => rfl) hc hl
    refine ⟨_, _, rfl, rfl, ?_, oneOf_sound h2⟩
    unfold results
    rw [Array.mapM_eq_mapM_toList, ← bind_pure_comp]
    simp only [Sem.run_bind]
    erw [h1]
    rfl
  · cases h

/-- what the model has of a function of D's -/
structure FuncOk (P : Program) (f : Nat) (df : DFunc) (fn : Func) (c : Code) : Prop where
  at_ : P.funcs[f]? = some fn
  name : (fn.name == "runtime.NumGoroutine") = false
  body : fn.body = some c

theorem plain_sound {n : Nat} {D : DProg} (hE : ExecOk P D n) {f : Nat} {fn : Func} {c : Code} {df : DFunc} (hf : P.funcs[f]? = some fn) (hn : (fn.name == "runtime.NumGoroutine") = false) (hb : fn.body = some c)
    (hr : resC P fn.results.toList = some df.results) (hc : codeC P c = some df.body) (hm : df.more = none) (hin : codeIn [] fn.ntmps c = true)
    {dargs : List DV} {args : Array Value} {out : Out} {s' : St} (h : finish (exec D n) df (exec D n df.body (envOf dargs 0 .leaf) s) = some (out, s')) (hR : R P ρ s w) (hV : VRs ρ dargs args.toList) :
    UponCall P ρ s w out s' f args := by
  refine .inl ⟨run_enter hf hn (by rw [hb]; rfl) args, calls_of_wp hf hb ?_⟩
  cases hx : exec D n df.body (envOf dargs 0 .leaf) s with
  | none => rw [hx] at h; cases h
  | some r =>
    obtain ⟨x, e', s1⟩ := r
    rw [hx] at h
    have hsz : fn.ntmps ≤ (args ++ Array.replicate (fn.ntmps - args.size) undef).size := by simp; omega
    have hw := hE [] c df.body ρ s w (envOf dargs 0 .leaf) { tmps := args ++ Array.replicate (fn.ntmps - args.size) undef, defers := [] } x e' s1 hc (codeIn_mono hsz hin) hR (envOf_sound hV _) hx
    refine wp_mono hw ?_
    intro ex a1 w1 hp
    obtain ⟨ρ1, k1, k2, k3, k4⟩ := hp
    have fin : EnvR ρ1 e' a1.tmps → giveD e' s1 df.results = some (out, s') → a1.defers = [] ∧ ∃ v, (results fn a1.tmps).run P w1 = .ok v w1 ∧ EndR P ρ s w out s' (.returned v) w1 := by
      intro k2 hg
      obtain ⟨dv, v, q1, q2, q3, q4⟩ := give_sound k1.rel k2 hr hg
      subst q2
      exact ⟨k3.defers, v, q3, dv, ρ1, q1, q4, k1⟩
    cases x with
    | norm =>
      cases ex <;> first | exact k4.elim | skip
      simp only [finish, hm] at h
      exact fin k2 h
    | ret =>
      cases ex <;> first | exact k4.elim | skip
      simp only [finish] at h
      exact fin k2 h
    | exit i => simp only [finish] at h; cases h
    | pan d =>
      cases ex <;> first | exact k4.elim | skip
      simp only [finish] at h
      injection h with h; injection h with h1 h2; subst h1; subst h2
      obtain ⟨v, q1, q2⟩ := k4
      exact ⟨k3.defers, d, v, ρ1, rfl, q2, q1, k1⟩
end
end Go.D
