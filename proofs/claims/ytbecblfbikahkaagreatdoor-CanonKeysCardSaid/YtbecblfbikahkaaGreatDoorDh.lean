/-
  A deferred recover is sound.
-/
import Derived.Test.YtbecblfbikahkaaGreatDoorDg
import Derived.Recover
import Derived.TacticsIn
import Derived.RangeFuncLeaves
import Derived.RangeFuncRecord
set_option linter.all false
set_option linter.deprecated false
namespace Go.D
open Go

def wpFlat (P : Program) : List Code → (Exit → Act → World → Prop) → Act → World → Prop
  | [], Q, a, w => Q .normal a w
  | c :: r, Q, a, w => c.wp P (Exit.then (wpFlat P r Q) Q) a w

theorem wpFlat_mono {P : Program} : ∀ {l : List Code} {Q Q' : Exit → Act → World → Prop} {a : Act} {w : World}, wpFlat P l Q a w → (∀ e a w, Q e a w → Q' e a w) → wpFlat P l Q' a w
  | [], _, _, _, _, h, hq => hq _ _ _ h
  | c :: r, _, _, _, _, h, hq => wp_mono h (fun e a w he => by
    cases e with
    | normal => exact wpFlat_mono he hq
    | _ => exact hq _ _ _ he)

theorem wpFlat_append {P : Program} : ∀ {l m : List Code} {Q : Exit → Act → World → Prop} {a : Act} {w : World}, wpFlat P (l ++ m) Q a w → wpFlat P l (Exit.then (wpFlat P m Q) Q) a w
  | [], _, _, _, _, h => h
  | c :: r, m, Q, _, _, h => wp_mono h (fun e a w he => by
    cases e with
    | normal => exact wpFlat_append (l := r) he
    | _ => exact he)

theorem wp_of_flat {P : Program} (c : Code) : ∀ {Q : Exit → Act → World → Prop} {a : Act} {w : World}, wpFlat P (flat c) Q a w → c.wp P Q a w := by
  induction c with
  | seq x y ihx ihy =>
    intro Q a w h
    have h := wpFlat_append (l := flat x) (m := flat y) h
    refine wp_seq (wp_mono (ihx h) ?_)
    intro e a w he
    cases e with
    | normal => exact ihy he
    | _ => exact he
  | _ => intro Q a w h; exact wp_mono h (fun e a w he => by cases e <;> exact he)
end Go.D
namespace Go.D
open Go

section
variable {F : List Nat} {P : Program} {D : DProg}

theorem seqs_sound : ∀ (cs : List Code) (ds : List DCode) (n : Nat) (ρ : Mp) (s : St) (w : World) (e : Env) (a : Act) (x : Ex) (e' : Env) (s' : St), (∀ m, m ≤ n → ExecOk P D m) → codesC P cs = some ds → (∀ c ∈ cs, codeIn F a.tmps.size c = true) →
    R P ρ s w → EnvR ρ e a.tmps → exec D n (seqs ds) e s = some (x, e', s') → wpFlat P cs (Post F P ρ s w a x e' s') a w
  | [], ds, n, ρ, s, w, e, a, x, e', s', _, hc, _, hR, hEn, h => by
    simp only [codesC] at hc; injection hc with hc; subst hc
    cases n with
    | zero => cases h
    | succ n =>
      simp only [seqs, exec] at h; injection h with h; injection h with h4 h5; injection h5 with h5 h6; subst h4; subst h5; subst h6
      exact ⟨ρ, Went.refl hR, hEn, Kept.refl _, trivial⟩
  | c :: r, ds, n, ρ, s, w, e, a, x, e', s', hE, hc, hin, hR, hEn, h => by
    simp only [codesC] at hc
    split at hc
    · rename_i d l h1 h2
      injection hc with hc; subst hc
      cases l with
      | nil =>
        have hr : r = [] := by
          cases r with
          | nil => rfl
          | cons c' r' =>
            simp only [codesC] at h2
            split at h2
            · injection h2 with h2; cases h2
            · cases h2
        subst hr
        simp only [seqs] at h
        exact wp_mono (hE n (Nat.le_refl n) F c d ρ s w e a x e' s' h1 (hin c (by simp)) hR hEn h) (fun ex a' w' hp => by cases ex <;> exact hp)
      | cons d' l' =>
        cases n with
        | zero => cases h
        | succ n =>
          simp only [seqs, exec] at h
          refine seq_sound (F := F) hR h (fun y e1 s1 hy => hE n (by omega) F c d ρ s w e a y e1 s1 h1 (hin c (by simp)) hR hEn hy) ?_ (fun _ _ _ h => h)
          intro e1 s1 ρ1 w1 a1 hk hw hE1 hka
          exact wpFlat_mono (seqs_sound r (d' :: l') n ρ1 s1 w1 e1 a1 x e' s' (fun m hm => hE m (by omega)) h2 (fun c' hc' => by rw [hka.size]; exact hin c' (by simp [hc'])) hw.rel hE1 hk) (fun ex a' w' hp => hp.trans hR hw hka)
    · cases hc
end
end Go.D
namespace Go.D
open Go

def resSlots : List ResultVar → List Nat
  | [] => []
  | .tmp t :: r => t :: resSlots r
  | .cell a _ :: r => a :: resSlots r

section
variable {P : Program} {ρ : Mp} {s : St} {w : World}

theorem result_sound' (hR : R P ρ s w) {e : Env} {tmps : Array Value} {gf : ResultVar → Sem Value} (hg1 : ∀ t, gf (.tmp t) = pure (tmps.getD t undef))
    (hg2 : ∀ a t, gf (.cell a t) = (do loadVar t (← asAddr (tmps.getD a undef)))) : ∀ {rv : List ResultVar} {rs : List DRes} {l : List DV}, (∀ t ∈ resSlots rv, VR ρ (egt e t) (tmps.getD t undef)) → resC P rv = some rs → resultsD e s rs = some l →
    ∃ vs : List Value, (rv.mapM gf).run P w = .ok vs w ∧ VRs ρ l vs
  | [], rs, l, _, hc, h => by
    simp only [resC] at hc; injection hc with hc; subst hc
    simp only [resultsD] at h; injection h with h; subst h
    exact ⟨[], by simp, .nil⟩
  | .tmp t :: r, rs, l, hE, hc, h => by
    simp only [resC] at hc
    cases hr : resC P r with
    | none => rw [hr] at hc; cases hc
    | some q =>
      rw [hr] at hc; injection hc with hc; subst hc
      simp only [resultsD, resultD] at h
      split at h
      · rename_i l' hl
        injection h with h; subst h
        obtain ⟨vs, h1, h2⟩ := result_sound' hR hg1 hg2 (fun t ht => hE t (by simp [resSlots, ht])) hr hl
        refine ⟨tmps.getD t undef :: vs, ?_, .cons (hE t (by simp [resSlots])) h2⟩
        rw [List.mapM_cons, hg1]
        simp only [Sem.run_bind, Sem.run_pure, Result.andThen_ok, h1]
      · cases h
  | .cell a t :: r, rs, l, hE, hc, h => by
    simp only [resC] at hc
    split at hc
    · rename_i g n q hg hn hr
      injection hc with hc; subst hc
      simp only [resultsD] at h
      split at h
      · rename_i v hv
        split at h
        · rename_i l' hl
          injection h with h; subst h
          obtain ⟨vs, h1, h2⟩ := result_sound' hR hg1 hg2 (fun t ht => hE t (by simp [resSlots, ht])) hr hl
          simp only [resultD] at hv
          have ha := hE a (by simp [resSlots])
          split at hv
          · rename_i b o hb
            rw [hb] at ha
            obtain ⟨_, v', k1, k2⟩ := s_loadL hR hg hn ha (dv := v) (s' := s) (by simp only [opLoad]; rw [hv]; rfl)
            refine ⟨v' :: vs, ?_, .cons k2 h2⟩
            rw [List.mapM_cons, hg2]
            generalize hval : tmps.getD a undef = val at ha k1
            cases ha with
            | @ptr _ _ x hb' =>
              simp only [Instr.loadAt, Instr.sureAddr, Sem.run_bind, Sem.run_pure, Result.andThen_ok] at k1
              simp only [asAddr, Sem.run_bind, Sem.run_pure, Result.andThen_ok, k1, h1]
          · cases hv
        · cases h
      · cases h
    · cases hc

theorem give_sound' (hR : R P ρ s w) {e : Env} {tmps : Array Value} {fn : Func} {rs : List DRes} {out : Out} {s' : St} (hE : ∀ t ∈ resSlots fn.results.toList, VR ρ (egt e t) (tmps.getD t undef)) (hc : resC P fn.results.toList = some rs) (h : giveD e s rs = some (out, s')) :
    ∃ dv v, out = .ret dv ∧ s' = s ∧ (results fn tmps).run P w = .ok v w ∧ VR ρ dv v := by
  unfold giveD at h
  split at h
  · rename_i l hl
    injection h with h; injection h with h1 h2; subst h1; subst h2
    obtain ⟨vs, h1, h2⟩ := result_sound' hR (gf := fun
      | .tmp t => pure (tmps.getD t undef)
      | .cell a t => do loadVar t (← asAddr (tmps.getD a undef))) (fun _ => rfl) (fun _ _ => rfl) hE hc hl
    refine ⟨_, _, rfl, rfl, ?_, oneOf_sound h2⟩
    unfold results
    rw [Array.mapM_eq_mapM_toList, ← bind_pure_comp]
    simp only [Sem.run_bind]
    erw [h1]
    rfl
  · cases h
end

theorem wpS_mono {P : Program} {c : Code} {Q Q' : Exit → Act → List Frame → World → Prop} {a : Act} {cs : List Frame} {w : World} (h : c.wpS P Q a cs w) (hq : ∀ e a cs w, Q e a cs w → Q' e a cs w) : c.wpS P Q' a cs w :=
  fun b k hb hr => let ⟨e, a', cs', w', q, r⟩ := h b k hb hr; ⟨e, a', cs', w', hq _ _ _ _ q, r⟩

def wpFlatS (P : Program) : List Code → (Exit → Act → List Frame → World → Prop) → Act → List Frame → World → Prop
  | [], Q, a, cs, w => Q .normal a cs w
  | c :: r, Q, a, cs, w => c.wpS P (Exit.thenS (wpFlatS P r Q) Q) a cs w

theorem wpFlatS_append {P : Program} : ∀ {l m : List Code} {Q : Exit → Act → List Frame → World → Prop} {a : Act} {cs : List Frame} {w : World}, wpFlatS P (l ++ m) Q a cs w → wpFlatS P l (Exit.thenS (wpFlatS P m Q) Q) a cs w
  | [], _, _, _, _, _, h => h
  | c :: r, m, Q, _, _, _, h => wpS_mono h (fun e a cs w he => by
    cases e with
    | normal => exact wpFlatS_append (l := r) he
    | _ => exact he)

theorem wpS_of_flat {P : Program} (c : Code) : ∀ {Q : Exit → Act → List Frame → World → Prop} {a : Act} {cs : List Frame} {w : World}, wpFlatS P (flat c) Q a cs w → c.wpS P Q a cs w := by
  induction c with
  | seq x y ihx ihy =>
    intro Q a cs w h
    have h := wpFlatS_append (l := flat x) (m := flat y) h
    refine wpS_seq (wpS_mono (ihx h) ?_)
    intro e a cs w he
    cases e with
    | normal => exact ihy he
    | _ => exact he
  | _ => intro Q a cs w h; exact wpS_mono h (fun e a cs w he => by cases e <;> exact he)

theorem wpFlatS_of {P : Program} {cs : List Frame} : ∀ {l : List Code} {Q : Exit → Act → List Frame → World → Prop} {a : Act} {w : World}, wpFlat P l (fun e a w => Q e a cs w) a w → wpFlatS P l Q a cs w
  | [], _, _, _, h => h
  | c :: r, _, _, _, h => wpS_of_wp (wp_mono h (fun e a w he => by
    cases e with
    | normal => exact wpFlatS_of he
    | _ => exact he))

theorem wpFlat_join {P : Program} : ∀ {l m : List Code} {Q : Exit → Act → World → Prop} {a : Act} {w : World}, wpFlat P l (Exit.then (wpFlat P m Q) Q) a w → wpFlat P (l ++ m) Q a w
  | [], _, _, _, _, h => h
  | c :: r, m, Q, _, _, h => wp_mono h (fun e a w he => by
    cases e with
    | normal => exact wpFlat_join (l := r) he
    | _ => exact he)

/-- a code list parted at its defer -/
theorem splitDefer_eq : ∀ {l A B : List Code} {caps : List Operand} {f t : Nat}, splitDefer l = some (A, (caps, f, t), B) →
    ∃ id o1 o2, l = A ++ .region id ⟨[o1, o2]⟩ false :: B ∧ o1.dst = some t ∧ o1.op = .makeFunc (.func f) ⟨[]⟩ ⟨caps⟩ ∧ o1.guard = none ∧ o2.dst = none ∧ o2.op = .defer ⟨.value (.tmp t), ⟨[]⟩, ⟨[]⟩⟩ ∧ o2.guard = none := by
  intro l
  induction l with
  | nil => intro A B caps f t h; simp [splitDefer] at h
  | cons c r ih =>
    intro A B caps f t h
    unfold splitDefer at h
    split at h
    · rename_i id t' f' caps' ty1 p1 a1 u ty2 p2 a2 r' heq
      injection heq with h1 h2; subst h1; subst h2
      rcases Bool.eq_false_or_eq_true (Nat.beq t' u) with n | n
      · rw [bif_true n] at h
        have n := Nat.eq_of_beq_eq_true n; subst n
        injection h with h; injection h with h1 h2; injection h2 with h2 h3; injection h2 with h4 h5; injection h5 with h5 h6
        subst h1; subst h3; subst h4; subst h5; subst h6
        exact ⟨_, _, _, rfl, rfl, rfl, rfl, rfl, rfl, rfl⟩
      · rw [bif_false n] at h; cases h
    · rename_i c' r' _ heq
      injection heq with h1 h2; subst h1; subst h2
      cases hr : splitDefer r with
      | none => rw [hr] at h; cases h
      | some q =>
        obtain ⟨a, ⟨cp, g, tt⟩, b⟩ := q
        rw [hr] at h
        simp only at h
        injection h with h; injection h with h1 h2; injection h2 with h2 h3; injection h2 with h4 h5; injection h5 with h5 h6
        subst h1; subst h3; subst h4; subst h5; subst h6
        obtain ⟨id, o1, o2, k⟩ := ih hr
        exact ⟨id, o1, o2, by rw [k.1]; rfl, k.2⟩
    · rename_i heq; cases heq

theorem splitRecover_eq : ∀ {l H : List Code} {t u : Nat}, splitRecover l = some (t, u, H) →
    ∃ id o1 o2, l = .region id ⟨[o1, o2]⟩ false :: H ∧ o1.dst = some t ∧ o1.op = .call ⟨.builtin .recover, ⟨[]⟩, ⟨[]⟩⟩ ∧ o1.guard = none ∧ o2.dst = some u ∧ o2.op = .assign (.tmp t) ∧ o2.guard = none := by
  intro l H t u h
  unfold splitRecover at h
  split at h
  · rename_i id t' ty1 p1 a1 u' v' ty2 p2 a2 r'
    rcases Bool.eq_false_or_eq_true (Nat.beq t' v') with n | n
    · rw [bif_true n] at h
      have n := Nat.eq_of_beq_eq_true n; subst n
      injection h with h; injection h with h1 h2; injection h2 with h2 h3
      subst h1; subst h2; subst h3
      exact ⟨_, _, _, rfl, rfl, rfl, rfl, rfl, rfl, rfl⟩
    · rw [bif_false n] at h; cases h
  · cases h
end Go.D
namespace Go.D
open Go

def FuncMore (P : Program) (f : Nat) (df : DFunc) : Prop :=
  ∃ fn c A B caps g t gn gc H m la lb lh,
    P.funcs[f]? = some fn ∧ (fn.name == "runtime.NumGoroutine") = false ∧ fn.body = some c ∧ resC P fn.results.toList = some df.results ∧ splitDefer (flat c) = some (A, (caps, g, t), B) ∧
    P.funcs[g]? = some gn ∧ (gn.name == "runtime.NumGoroutine") = false ∧ gn.body = some gc ∧ splitRecover (flat gc) = some (m.tmp, m.slot, H) ∧ gn.results = #[] ∧
    codesC P A = some la ∧ df.body = seqs la ∧ opdsC P caps = some m.cap ∧ m.fn = g ∧ m.fslot = t ∧ codesC P B = some lb ∧ m.rest = seqs lb ∧ codesC P H = some lh ∧ m.hand = seqs lh ∧ df.more = some m ∧
    A.all (codeIn [] fn.ntmps) = true ∧ B.all (codeIn (resSlots fn.results.toList) fn.ntmps) = true ∧ dstIn (resSlots fn.results.toList) fn.ntmps (some t) = true ∧
    H.all (codeIn [] gn.ntmps) = true ∧ dstIn [] gn.ntmps (some m.tmp) = true ∧ dstIn [] gn.ntmps (some m.slot) = true

section
variable {P : Program} {D : DProg} {ρ : Mp} {s : St} {w : World}

theorem dstIn_mono {F : List Nat} {N M : Nat} (h : N ≤ M) {t : Nat} (hd : dstIn F N (some t) = true) : dstIn F M (some t) = true := by
  obtain ⟨h3, h4⟩ := dstIn_lt hd
  simp only [dstIn, Bool.and_eq_true, Bool.not_eq_true']
  refine ⟨Nat.ble_eq_true_of_le (Nat.le_trans h3 h), ?_⟩
  cases hc : F.contains t with
  | false => rfl
  | true => exact absurd (List.contains_iff_mem.1 hc) h4

theorem results_none {fn : Func} (h : fn.results = #[]) (tmps : Array Value) : (results fn tmps).run P w = .ok (.tuple #[]) w := by
  unfold results
  rw [h]
  simp

theorem wpOpsS_some {ops : Array Oper} {i : Nat} {rest : List Nat} {o : Oper} {Q : Exit → Act → List Frame → World → Prop} {a : Act} {cs cs' : List Frame} {v : Value} (ho : ops[i]? = some o) (hw : ∀ y, Region.wanted o y = true)
    (hr : (execOp a.eval o).run P w = .ok .recover w) (hc : recoverD cs = some (v, cs')) (h : wpOpsS P ops Q rest (a.put o.dst v) cs' w) : wpOpsS P ops Q (i :: rest) a cs w := by
  simp only [wpOpsS, ho, hw, if_true, hr, hc]; exact h

theorem wpOpsS_none {ops : Array Oper} {i : Nat} {rest : List Nat} {o : Oper} {Q : Exit → Act → List Frame → World → Prop} {a : Act} {cs : List Frame} (ho : ops[i]? = some o) (hw : ∀ y, Region.wanted o y = true)
    (hr : (execOp a.eval o).run P w = .ok .recover w) (hc : recoverD cs = none) (h : wpOpsS P ops Q rest (a.put o.dst .nilIface) cs w) : wpOpsS P ops Q (i :: rest) a cs w := by
  simp only [wpOpsS, ho, hw, if_true, hr, hc]; exact h

/-- how the frame stands when its deferred closure is called, and what recover gives there -/
inductive ModeR (ρ : Mp) : DV → FrameMode → Value → Prop where
  | back : ModeR ρ .nilIface .returning .nilIface
  | pan {d : DV} {v : Value} (h : VR ρ d v) : ModeR ρ d (.panicking [{ v, recovered := false }]) v

theorem handle_sound {n : Nat} (hE : ∀ m, m ≤ n → ExecOk P D m) {g : Nat} {gn : Func} {gc : Code} {H : List Code} {lh : List DCode} {m : DMore}
    (hg : P.funcs[g]? = some gn) (hgn : (gn.name == "runtime.NumGoroutine") = false) (hgb : gn.body = some gc) (hsr : splitRecover (flat gc) = some (m.tmp, m.slot, H)) (hgr : gn.results = #[])
    (hlh : codesC P H = some lh) (hmh : m.hand = seqs lh) (hH : H.all (codeIn [] gn.ntmps) = true) (ht : dstIn [] gn.ntmps (some m.tmp) = true) (hu : dstIn [] gn.ntmps (some m.slot) = true)
    {fn : Func} {rs : List DRes} (hrs : resC P fn.results.toList = some rs) {e : Env} {tmps : Array Value} (hEn : ∀ t ∈ resSlots fn.results.toList, VR ρ (egt e t) (tmps.getD t undef))
    {dv : DV} {u : FrameMode} {pv : Value} (hmode : ModeR ρ dv u pv) {dcaps : List DV} {caps : Array Value} (hV : VRs ρ dcaps caps.toList) {out : Out} {s' : St} {ρ0 : Mp} {s0 : St} {w0 : World} (hR0 : R P ρ0 s0 w0) (hwent : Went P ρ0 s0 w0 ρ s w)
    (h : handle (exec D n) rs m e dv dcaps s = some (out, s')) (hR : R P ρ s w) :
    Leaves P fn tmps (EndR P ρ0 s0 w0 out s') [{ target := .fn (.func g) caps, args := #[] }] u w := by
  have hrun : u ≠ .run := by cases hmode <;> simp
  refine leaves_cons hrun (f := g) (args := #[] ++ caps) (run_enter hg hgn (by rw [hgb]; rfl) _) ?_
  refine callsD_of_wpS hg hgb (fun c₀ cs hc => wpS_of_flat gc ?_)
  obtain ⟨id, o1, o2, hfl, h1d, h1o, h1g, h2d, h2o, h2g⟩ := splitRecover_eq hsr
  rw [hfl]
  refine wpS_region ?_
  show wpOpsS P ⟨[o1, o2]⟩ _ [0, 1] _ _ _
  have e1 : ∀ ev : Operand → Value, (execOp ev o1).run P w = .ok .recover w := by
    intro ev
    simp only [execOp, h1o, resolve, invoke, builtin, Sem.run_bind, Sem.run_pure, Result.andThen_ok]
  have e2 : ∀ ev : Operand → Value, (execOp ev o2).run P w = .ok (.value (ev (.tmp m.tmp))) w := by
    intro ev
    simp only [execOp, h2o, Sem.run_pure]
  have w1 : ∀ y, Region.wanted o1 y = true := fun y => by simp [Region.wanted, h1g]
  have w2 : ∀ y, Region.wanted o2 y = true := fun y => by simp [Region.wanted, h2g]
  have main : ∀ (c₁ : Frame) (u' : FrameMode), c₁ = { c₀ with mode := u' } → settle u' = .returning →
      wpOpsS P ⟨[o1, o2]⟩ (Exit.thenS (wpFlatS P H (bodyPostS P gn c₀ cs fun
        | .returned _, u', w' => Leaves P fn tmps (EndR P ρ0 s0 w0 out s') [] (settle u') w'
        | .panicked chain, u', w' => Leaves P fn tmps (EndR P ρ0 s0 w0 out s') [] (raised u' chain) w'
        | .outgrown, _, w' => EndR P ρ0 s0 w0 out s' .outgrown w')) (bodyPostS P gn c₀ cs fun
        | .returned _, u', w' => Leaves P fn tmps (EndR P ρ0 s0 w0 out s') [] (settle u') w'
        | .panicked chain, u', w' => Leaves P fn tmps (EndR P ρ0 s0 w0 out s') [] (raised u' chain) w'
        | .outgrown, _, w' => EndR P ρ0 s0 w0 out s' .outgrown w')) [1]
        (Act.put { tmps := (#[] ++ caps) ++ Array.replicate (gn.ntmps - (#[] ++ caps).size) undef, defers := [] } o1.dst pv) (c₁ :: cs) w := by
    intro c₁ u' hc1 hset
    have hsz : gn.ntmps ≤ ((#[] ++ caps) ++ Array.replicate (gn.ntmps - (#[] ++ caps).size) undef).size := by simp; omega
    have hV' : VRs ρ dcaps (#[] ++ caps).toList := by simpa using hV
    have hEn0 := envOf_sound (ρ := ρ) hV' (gn.ntmps - (#[] ++ caps).size)
    generalize ha0 : ({ tmps := (#[] ++ caps) ++ Array.replicate (gn.ntmps - (#[] ++ caps).size) undef, defers := [] } : Act) = a0
    have ha0t : a0.tmps = (#[] ++ caps) ++ Array.replicate (gn.ntmps - (#[] ++ caps).size) undef := by rw [← ha0]
    have ha0d : a0.defers = [] := by rw [← ha0]
    rw [← ha0t] at hEn0 hsz
    have hpv : VR ρ dv pv := by cases hmode with
      | back => exact .nilIface
      | pan h => exact h
    have ht' := dstIn_mono hsz ht
    have hu' := dstIn_mono hsz hu
    have hEn1 := EnvR.put hEn0 ht' hpv
    have hk1 := Kept.put (F := []) ht' pv
    have hk2 := Kept.put (F := []) (a := a0.put (some m.tmp) pv) (d := some m.slot) (by rw [hk1.size]; exact hu') ((a0.put (some m.tmp) pv).eval (.tmp m.tmp))
    have hv2 : VR ρ dv ((a0.put (some m.tmp) pv).eval (.tmp m.tmp)) := by
      have := hEn1 m.tmp
      rw [egt_put, if_pos rfl] at this
      exact this
    have hEn2 := EnvR.put (F := []) hEn1 (d := some m.slot) (by rw [hk1.size]; exact hu') hv2
    simp only [wpOpsS]
    simp only [List.getElem?_toArray, List.getElem?_cons_succ, List.getElem?_cons_zero, w2, if_true, e2, Oper.upon_value, h1d, h2d]
    simp only [handle] at h
    rw [hmh] at h
    have hk := hk1.trans hk2
    generalize hxx : exec D n (seqs lh) (eput (eput (envOf dcaps 0 .leaf) m.tmp dv) m.slot dv) s = xx at h
    have seq := fun (x : Ex) (e' : Env) (s1 : St) hx => seqs_sound (F := []) H lh n ρ s w _ ((a0.put (some m.tmp) pv).put (some m.slot) ((a0.put (some m.tmp) pv).eval (.tmp m.tmp))) x e' s1 hE hlh
      (fun c hc => codeIn_mono (by rw [hk.size]; exact hsz) (List.all_eq_true.1 hH c hc)) hR hEn2 hx
    have fin : ∀ x e' s1 a' w', Post [] P ρ s w ((a0.put (some m.tmp) pv).put (some m.slot) ((a0.put (some m.tmp) pv).eval (.tmp m.tmp))) x e' s1 .normal a' w' ∨ Post [] P ρ s w ((a0.put (some m.tmp) pv).put (some m.slot) ((a0.put (some m.tmp) pv).eval (.tmp m.tmp))) x e' s1 .ret a' w' → giveD e s1 rs = some (out, s') →
        a'.defers = [] ∧ ∃ u', c₁ :: cs = { c₀ with mode := u' } :: cs ∧ ∃ v, (results gn a'.tmps).run P w' = .ok v w' ∧ Leaves P fn tmps (EndR P ρ0 s0 w0 out s') [] (settle u') w' := by
      intro x e' s1 a' w' hp hgv
      obtain ⟨ρ1, k1, _, k3, _⟩ : ∃ ρ1, Went P ρ s w ρ1 s1 w' ∧ True ∧ Kept [] ((a0.put (some m.tmp) pv).put (some m.slot) ((a0.put (some m.tmp) pv).eval (.tmp m.tmp))) a' ∧ True := by
        rcases hp with hp | hp <;> obtain ⟨ρ1, k1, k2, k3, k4⟩ := hp <;> exact ⟨ρ1, k1, trivial, k3, trivial⟩
      refine ⟨by rw [k3.defers, hk.defers, ha0d], u', by rw [hc1], .tuple #[], results_none hgr _, ?_⟩
      rw [hset]
      obtain ⟨dv', v, q1, q2, q3, q4⟩ := give_sound' k1.rel (fn := fn) (tmps := tmps) (fun t ht => (hEn t ht).mono k1.le) hrs hgv
      subst q2
      exact ⟨v, q3, dv', ρ1, q1, q4, Went.trans hR0 hwent k1⟩
    cases xx with
    | none => cases h
    | some r =>
      obtain ⟨x, e', s1⟩ := r
      refine wpFlatS_of (wpFlat_mono (seq x e' s1 hxx) ?_)
      intro ex a' w' hp
      cases x with
      | norm =>
        cases ex <;> first | (obtain ⟨_, _, _, _, k4⟩ := hp; exact k4.elim) | skip
        exact fin _ _ _ _ _ (.inl hp) h
      | ret =>
        cases ex <;> first | (obtain ⟨_, _, _, _, k4⟩ := hp; exact k4.elim) | skip
        exact fin _ _ _ _ _ (.inr hp) h
      | exit i => cases h
      | pan d => cases h
  cases hmode with
  | back =>
    have : recoverD (c₀ :: cs) = none := by simp only [recoverD, hc]
    exact wpOpsS_none (by rfl) w1 (e1 _) this (main c₀ .returning (by rw [← hc]) rfl)
  | pan hv =>
    have : recoverD (c₀ :: cs) = some (pv, { c₀ with mode := .panicking [{ v := pv, recovered := true }] } :: cs) := by simp only [recoverD, hc]
    exact wpOpsS_some (by rfl) w1 (e1 _) this (main _ (.panicking [{ v := pv, recovered := true }]) rfl rfl)
end
end Go.D
namespace Go.D
open Go

section
variable {P : Program} {D : DProg}

theorem more_sound {f : Nat} {df : DFunc} (hM : FuncMore P f df) : MoreOk P D f df := by
  obtain ⟨fn, c, A, B, caps, g, t, gn, gc, H, m, la, lb, lh, hf, hn, hb, hr, hsd, hg, hgn, hgb, hsr, hgr, hla, hdb, hcaps, hmf, hmt, hlb, hmr, hlh, hmh, hdm, hA, hB, hT, hH, hTm, hSl⟩ := hM
  intro n hE dargs ρ s w args out s' h hR hV
  refine .inl ⟨run_enter hf hn (by rw [hb]; rfl) args, calls_of_wp_defers hf hb (wp_of_flat c ?_)⟩
  obtain ⟨id, o1, o2, hfl, h1d, h1o, h1g, h2d, h2o, h2g⟩ := splitDefer_eq hsd
  rw [hfl]
  refine wpFlat_join ?_
  have hsz : fn.ntmps ≤ (args ++ Array.replicate (fn.ntmps - args.size) undef).size := by simp; omega
  have hE0 := envOf_sound (ρ := ρ) hV (fn.ntmps - args.size)
  generalize ha0 : ({ tmps := args ++ Array.replicate (fn.ntmps - args.size) undef, defers := [] } : Act) = a0
  have ha0t : a0.tmps = args ++ Array.replicate (fn.ntmps - args.size) undef := by rw [← ha0]
  have ha0d : a0.defers = [] := by rw [← ha0]
  rw [← ha0t] at hE0 hsz
  rw [hdb] at h
  generalize hxx : exec D n (seqs la) (envOf dargs 0 .leaf) s = xx at h
  cases xx with
  | none => cases h
  | some q =>
  obtain ⟨x, e1, s1⟩ := q
  refine wpFlat_mono (seqs_sound (F := []) A la n ρ s w _ a0 x e1 s1 hE hla (fun c hc => codeIn_mono hsz (List.all_eq_true.1 hA c hc)) hR hE0 hxx) ?_
  intro ex a1 w1 hp
  obtain ⟨ρ1, k1, k2, k3, k4⟩ := hp
  cases x with
  | exit i => simp only [finish] at h; cases h
  | ret =>
    cases ex <;> first | exact k4.elim | skip
    simp only [finish] at h
    obtain ⟨dv, v, q1, q2, q3, q4⟩ := give_sound k1.rel k2 hr h
    subst q2
    show Leaves P fn a1.tmps _ a1.defers .returning w1
    rw [k3.defers, ha0d]
    exact ⟨v, q3, dv, ρ1, q1, q4, k1⟩
  | pan d =>
    cases ex <;> first | exact k4.elim | skip
    rename_i ch
    simp only [finish] at h
    injection h with h; injection h with h1 h2; subst h1; subst h2
    obtain ⟨v, q1, q2⟩ := k4
    show Leaves P fn a1.tmps _ a1.defers (.panicking ch) w1
    rw [k3.defers, ha0d]
    exact ⟨d, v, ρ1, rfl, q2, q1, k1⟩
  | norm =>
    cases ex <;> first | exact k4.elim | skip
    have k2 : EnvR ρ1 e1 a1.tmps := k2
    simp only [finish, hdm] at h
    show ((Code.region id ⟨[o1, o2]⟩ false).wp P (Exit.then (wpFlat P B _) _) a1 w1)
    refine wp_region_list ?_
    show wpList P ⟨[o1, o2]⟩ _ [o1, o2] a1 w1
    have hsz1 : fn.ntmps ≤ a1.tmps.size := by rw [k3.size]; exact hsz
    have hT1 := dstIn_mono hsz1 hT
    refine wpList_plain h1g (fun K hK => ?_)
    have r1 : (execOp a1.eval o1).run P w1 = .ok (.value (.func (.func g) #[] ((caps.map a1.eval).toArray))) w1 := by
      simp [execOp, h1o, Instr.makeFunc]
    unfold Oper.wp
    rw [r1, Oper.upon_value, h1d]
    refine hK _ _ ?_
    refine wpList_plain h2g (fun K2 hK2 => ?_)
    generalize hclo : Value.func (.func g) #[] ((caps.map a1.eval).toArray) = clo
    have hV1 := evs_sound k1.rel k2 hcaps
    have hclR : VR ρ1 (.func (.func g) [] (evs e1 m.cap)) clo := by
      rw [← hclo]
      refine .func _ .nil ?_
      simpa using hV1
    have hE2 := EnvR.put (F := resSlots fn.results.toList) k2 hT1 hclR
    have hk2 := Kept.put (F := resSlots fn.results.toList) hT1 clo
    have hget : (a1.put (some t) clo).tmps.getD t undef = clo := by
      have ht := (dstIn_lt hT1).1
      simp only [Act.put, Array.getD_eq_getD_getElem?, Array.getElem?_setIfInBounds]
      have : t < a1.tmps.size := by omega
      simp [this]
    have r2 : (execOp (a1.put (some t) clo).eval o2).run P w1 = .ok (.defer { target := .fn (.func g) ((caps.map a1.eval).toArray), args := #[] }) w1 := by
      simp only [execOp, h2o, resolve, Act.eval, hget, Sem.run_bind, Sem.run_pure, Result.andThen_ok]
      rw [← hclo]
      simp [Deferred.ofValue]
    unfold Oper.wp
    rw [r2, Oper.upon_defer, h2d]
    refine hK2 _ _ ?_
    show wpFlat P B (bodyPostD P fn (EndR P ρ s w out s')) { a1.put (some t) clo with defers := _ :: (a1.put (some t) clo).defers } w1
    generalize ha2 : ({ a1.put (some t) clo with defers := { target := .fn (.func g) ((caps.map a1.eval).toArray), args := #[] } :: (a1.put (some t) clo).defers } : Act) = a2
    have ha2t : a2.tmps = (a1.put (some t) clo).tmps := by rw [← ha2]
    have ha2d : a2.defers = [{ target := .fn (.func g) ((caps.map a1.eval).toArray), args := #[] }] := by
      rw [← ha2]
      show _ :: (a1.put (some t) clo).defers = _
      rw [hk2.defers, k3.defers, ha0d]
    have hE2' : EnvR ρ1 (eput e1 t (.func (.func g) [] (evs e1 m.cap))) a2.tmps := by rw [ha2t]; exact hE2
    have hsz2 : fn.ntmps ≤ a2.tmps.size := by rw [ha2t, hk2.size]; exact hsz1
    rw [hmt, hmf, hmr] at h
    generalize hyy : exec D n (seqs lb) (eput e1 t (.func (.func g) [] (evs e1 m.cap))) s1 = yy at h
    cases yy with
    | none => cases h
    | some q =>
    obtain ⟨y, e2, s2⟩ := q
    refine wpFlat_mono (seqs_sound (F := resSlots fn.results.toList) B lb n ρ1 s1 w1 _ a2 y e2 s2 hE hlb (fun c hc => codeIn_mono hsz2 (List.all_eq_true.1 hB c hc)) k1.rel hE2' hyy) ?_
    intro ex a3 w3 hp
    obtain ⟨ρ3, j1, j2, j3, j4⟩ := hp
    have hV3 : VRs ρ3 (evs e1 m.cap) ((caps.map a1.eval).toArray).toList := by
      have := VRs.mono j1.le hV1
      simpa using this
    have hW := Went.trans hR k1 j1
    cases y with
    | exit i => cases h
    | ret =>
      cases ex <;> first | exact j4.elim | skip
      have j2 : EnvR ρ3 e2 a3.tmps := j2
      show Leaves P fn a3.tmps _ a3.defers .returning w3
      rw [j3.defers, ha2d]
      exact handle_sound hE hg hgn hgb hsr hgr hlh hmh hH hTm hSl hr (fun t _ => j2 t) .back hV3 hR hW h j1.rel
    | norm =>
      cases ex <;> first | exact j4.elim | skip
      have j2 : EnvR ρ3 e2 a3.tmps := j2
      show Leaves P fn a3.tmps _ a3.defers .returning w3
      rw [j3.defers, ha2d]
      exact handle_sound hE hg hgn hgb hsr hgr hlh hmh hH hTm hSl hr (fun t _ => j2 t) .back hV3 hR hW h j1.rel
    | pan d =>
      cases ex <;> first | exact j4.elim | skip
      rename_i ch
      obtain ⟨v, q1, q2⟩ := j4
      show Leaves P fn a3.tmps _ a3.defers (.panicking ch) w3
      rw [j3.defers, ha2d, q2]
      refine handle_sound hE hg hgn hgb hsr hgr hlh hmh hH hTm hSl hr (fun u hu => ?_) (.pan q1) hV3 hR hW h j1.rel
      rw [j3.slots u hu, ha2t, hk2.slots u hu]
      exact (k2 u).mono j1.le
end
end Go.D
namespace Go.D
open Go

def simpleC : Code → Bool
  | .region _ _ draw => !draw
  | .seq a b => simpleC a && simpleC b
  | .cond _ a b => simpleC a && simpleC b
  | .block _ b => simpleC b
  | .skip => true
  | .ret => true
  | .exit _ => true
  | _ => false
def simpleD : DCode → Bool
  | .region ops => ops.all fun o => plainD o.op
  | .seq a b => simpleD a && simpleD b
  | .cond _ a b => simpleD a && simpleD b
  | .block _ b => simpleD b
  | .skip => true
  | .ret => true
  | .exit _ => true
  | _ => false

section
variable {P : Program} {fc : Fence} {nn : Nat}

theorem opC_noDefer {o : Oper} {d : DOp} (hc : opC P o = some d) : ∀ c, o.op ≠ .defer c := by
  intro c h
  unfold opC at hc
  rw [h] at hc
  cases hc

/-- what one operation does, with what follows -/
theorem do_in (hfn : ∀ f, fc.fn f) {F : List Nat} {ρ : Mp} {s : St} {w : World} {call : Caller} (hR : R P ρ s w) {e : Env} {a : Act} (hE : EnvR ρ e a.tmps) {o : Oper} {d : DOp} (hc : opC P o = some d) (hp : plainD d = true) (hd : dstIn F a.tmps.size o.dst = true)
    {k : Env → St → Going} {x : Ex} {e' : Env} {s' : St} (h : doOp call o.dst d e s k = some (x, e', s'))
    {K : Act → World → Prop} {Q : Exit → Act → World → Prop}
    (hk : ∀ e1 s1 ρ1 w1 a1, k e1 s1 = some (x, e', s') → Went P ρ s w ρ1 s1 w1 → EnvR ρ1 e1 a1.tmps → Kept F a a1 → K a1 w1) : o.wpIn fc nn P a w K Q := by
  rw [doOp_plain hp] at h
  refine ⟨fun f _ => hfn f, ?_⟩
  rw [Oper.semAt_eq _ _ _ (opC_noDefer hc)]
  cases hr : opD e s d with
  | none => rw [hr] at h; cases h
  | some q =>
    obtain ⟨dv, t⟩ := q
    rw [hr] at h
    obtain ⟨ρ', w', v, h1, h2, h3⟩ := op_sound hR hE hc hr
    rcases h1 with h1 | ⟨h1, rfl⟩
    · rw [h1, Oper.uponIn_value]
      exact hk _ _ ρ' w' _ h h3 ((hE.mono h3.le).put hd h2) (Kept.put hd _)
    · rw [h1, Oper.uponIn_skip]
      exact hk _ _ ρ' w' _ h h3 ((hE.mono h3.le).put hd h2) (Kept.put hd _)

theorem runOps_in (hfn : ∀ f, fc.fn f) {F : List Nat} {call : Caller} {ops : Array Oper} {x : Ex} {e' : Env} {s' : St} : ∀ (os : List Oper) (ds : List DOper) (ρ : Mp) (s : St) (w : World) (e : Env) (a : Act) (Q : Exit → Act → World → Prop),
    opersC P ops os = some ds → (ds.all fun o => plainD o.op) = true → (∀ o ∈ os, dstIn F a.tmps.size o.dst = true) → R P ρ s w → EnvR ρ e a.tmps → runOps call ds e s = some (x, e', s') →
    (∀ ex a' w', Post F P ρ s w a x e' s' ex a' w' → Q ex a' w') → wpListIn fc nn P ops Q os a w
  | [], ds, ρ, s, w, e, a, Q, hc, _, _, hR, hE, h, hq => by
    simp only [opersC] at hc; injection hc with hc; subst hc
    simp only [runOps] at h
    injection h with h; injection h with h4 h5; injection h5 with h5 h6; subst h4; subst h5; subst h6
    exact hq _ _ _ ⟨ρ, Went.refl hR, hE, Kept.refl _, trivial⟩
  | o :: os, ds, ρ, s, w, e, a, Q, hc, hpl, hd, hR, hE, h, hq => by
    obtain ⟨d, g, l, rfl, d1, g1, l1⟩ := opersC_cons hc
    simp only [List.all_cons, Bool.and_eq_true] at hpl
    simp only [runOps] at h
    unfold wpListIn
    rw [guard_sound hE g1]
    split at h
    · rename_i hg
      rw [if_pos hg]
      refine do_in hfn (F := F) hR hE d1 hpl.1 (hd o (by simp)) h ?_
      intro e1 s1 ρ1 w1 a1 hk1 hw hE1 hka
      exact runOps_in hfn os l ρ1 s1 w1 e1 a1 Q l1 hpl.2 (fun o' ho' => by rw [hka.size]; exact hd o' (by simp [ho'])) hw.rel hE1 hk1
        (fun ex a' w' hp => hq ex a' w' (hp.trans hR hw hka))
    · rename_i hg
      rw [if_neg (by rw [hg]; simp)]
      exact ⟨fun f _ => hfn f, runOps_in hfn os l ρ s w _ _ Q l1 hpl.2 (fun o' ho' => by rw [(Kept.put (hd o (by simp)) _).size]; exact hd o' (by simp [ho'])) hR (hE.put (hd o (by simp)) undefR) h
        (fun ex a' w' hp => hq ex a' w' (hp.trans hR (Went.refl hR) (Kept.put (hd o (by simp)) _)))⟩

theorem seq_in {F : List Nat} {ρ : Mp} {s : St} {w : World} {a : Act} {x : Ex} {e' : Env} {s' : St} {c : Code} {r : Going} {k : Env → St → Going} {next : Act → World → Prop} {Q : Exit → Act → World → Prop}
    (h : thenD k r = some (x, e', s')) (hc : ∀ y e1 s1, r = some (y, e1, s1) → c.wpIn fc nn P (Post F P ρ s w a y e1 s1) a w)
    (hk : ∀ e1 s1 ρ1 w1 a1, k e1 s1 = some (x, e', s') → Went P ρ s w ρ1 s1 w1 → EnvR ρ1 e1 a1.tmps → Kept F a a1 → next a1 w1)
    (hq : ∀ ex a' w', Post F P ρ s w a x e' s' ex a' w' → Q ex a' w') : c.wpIn fc nn P (Exit.then next Q) a w := by
  cases r with
  | none => cases h
  | some q =>
    obtain ⟨y, e1, s1⟩ := q
    refine wpIn_mono (hc y e1 s1 rfl) ?_
    intro ex a1 w1 hp
    obtain ⟨ρ1, k1, k2, k3, k4⟩ := hp
    cases y with
    | norm =>
      cases ex <;> first | exact k4.elim | skip
      exact hk e1 s1 ρ1 w1 a1 h k1 k2 k3
    | ret =>
      cases ex <;> first | exact k4.elim | skip
      injection h with h; injection h with h4 h5; injection h5 with h5 h6; subst h4; subst h5; subst h6
      exact hq _ _ _ ⟨ρ1, k1, k2, k3, trivial⟩
    | exit i =>
      cases ex <;> first | exact k4.elim | skip
      injection h with h; injection h with h4 h5; injection h5 with h5 h6; subst h4; subst h5; subst h6
      exact hq _ _ _ ⟨ρ1, k1, k2, k3, k4⟩
    | pan d =>
      cases ex <;> first | exact k4.elim | skip
      injection h with h; injection h with h4 h5; injection h5 with h5 h6; subst h4; subst h5; subst h6
      exact hq _ _ _ ⟨ρ1, k1, k2, k3, k4⟩

theorem exec_in (hfn : ∀ f, fc.fn f) {D : DProg} : ∀ (n : Nat) (F : List Nat) (c : Code) (d : DCode) (ρ : Mp) (s : St) (w : World) (e : Env) (a : Act) (x : Ex) (e' : Env) (s' : St), codeC P c = some d → simpleC c = true → simpleD d = true → codeIn F a.tmps.size c = true → R P ρ s w → EnvR ρ e a.tmps →
    exec D n d e s = some (x, e', s') → c.wpIn fc nn P (Post F P ρ s w a x e' s') a w := by
  intro n
  induction n with
  | zero => intro F c d ρ s w e a x e' s' _ _ _ _ _ _ h; cases h
  | succ n ih =>
    intro F c
    induction c with
    | skip =>
      intro d ρ s w e a x e' s' hc _ _ hin hR hEn h
      simp only [codeC] at hc; injection hc with hc; subst hc
      simp only [exec] at h; injection h with h; injection h with h4 h5; injection h5 with h5 h6; subst h4; subst h5; subst h6
      exact wpIn_skip ⟨ρ, Went.refl hR, hEn, Kept.refl _, trivial⟩
    | region id ops draw =>
      intro d ρ s w e a x e' s' hc hsc hsd hin hR hEn h
      simp only [codeIn, List.all_eq_true] at hin
      cases draw with
      | false =>
        simp only [codeC] at hc
        cases ho : opersC P ops ops.toList with
        | none => rw [ho] at hc; cases hc
        | some ds =>
          rw [ho] at hc; injection hc with hc; subst hc
          exact wpIn_region_list (runOps_in hfn ops.toList ds ρ s w e a _ ho hsd hin hR hEn h (fun _ _ _ h => h))
      | true => cases hsc
    | seq p q _ _ =>
      intro d ρ s w e a x e' s' hc hsc hsd hin hR hEn h
      simp only [codeIn, Bool.and_eq_true] at hin
      simp only [simpleC, Bool.and_eq_true] at hsc
      simp only [codeC] at hc
      split at hc
      · rename_i dp dq h1 h2
        injection hc with hc; subst hc
        simp only [simpleD, Bool.and_eq_true] at hsd
        simp only [exec] at h
        refine wpIn_seq (seq_in (F := F) h (fun y e1 s1 hy => ih F p dp ρ s w e a y e1 s1 h1 hsc.1 hsd.1 hin.1 hR hEn hy) ?_ (fun _ _ _ h => h))
        intro e1 s1 ρ1 w1 a1 hk hw hE1 hka
        exact wpIn_mono (ih F q dq ρ1 s1 w1 e1 a1 x e' s' h2 hsc.2 hsd.2 (by rw [hka.size]; exact hin.2) hw.rel hE1 hk) (fun ex a' w' hp => hp.trans hR hw hka)
      · cases hc
    | cond c p q _ _ =>
      intro d ρ s w e a x e' s' hc hsc hsd hin hR hEn h
      simp only [codeIn, Bool.and_eq_true] at hin
      simp only [simpleC, Bool.and_eq_true] at hsc
      simp only [codeC] at hc
      split at hc
      · rename_i z dp dq h1 h2 h3
        injection hc with hc; subst hc
        simp only [simpleD, Bool.and_eq_true] at hsd
        simp only [exec] at h
        have hz := ev_sound hR hEn h1
        unfold condD at h
        split at h
        · rename_i hb
          rw [hb] at hz
          exact wpIn_cond_true (bool_eq hz) (ih F p dp ρ s w e a x e' s' h2 hsc.1 hsd.1 hin.1 hR hEn h)
        · rename_i hb
          rw [hb] at hz
          exact wpIn_cond_false (bool_eq hz) (ih F q dq ρ s w e a x e' s' h3 hsc.2 hsd.2 hin.2 hR hEn h)
        · cases h
      · cases hc
    | block id b _ =>
      intro d ρ s w e a x e' s' hc hsc hsd hin hR hEn h
      simp only [codeIn] at hin
      simp only [simpleC] at hsc
      simp only [codeC] at hc
      cases hb : codeC P b with
      | none => rw [hb] at hc; cases hc
      | some db =>
        rw [hb] at hc; injection hc with hc; subst hc
        simp only [simpleD] at hsd
        simp only [exec] at h
        cases hr : exec D n db e s with
        | none => rw [hr] at h; cases h
        | some r =>
          obtain ⟨y, e1, s1⟩ := r
          rw [hr] at h
          refine wpIn_block (wpIn_mono (ih F b db ρ s w e a y e1 s1 hb hsc hsd hin hR hEn hr) ?_)
          intro ex a1 w1 hp
          obtain ⟨ρ1, k1, k2, k3, k4⟩ := hp
          cases y with
          | exit i =>
            cases ex <;> first | exact k4.elim | skip
            rename_i j
            have k4 : i = j := k4
            subst k4
            simp only [blockD] at h
            simp only [Exit.inBlock]
            rcases Bool.eq_false_or_eq_true (Nat.beq i id) with n4 | n4
            · rw [bif_true n4] at h
              rw [if_pos (Nat.eq_of_beq_eq_true n4)]
              injection h with h; injection h with h4 h5; injection h5 with h5 h6; subst h4; subst h5; subst h6
              exact ⟨ρ1, k1, k2, k3, trivial⟩
            · rw [bif_false n4] at h
              rw [if_neg (fun hh => by subst hh; rw [Nat.beq_refl] at n4; cases n4)]
              injection h with h; injection h with h4 h5; injection h5 with h5 h6; subst h4; subst h5; subst h6
              exact ⟨ρ1, k1, k2, k3, rfl⟩
          | norm =>
            cases ex <;> first | exact k4.elim | skip
            injection h with h; injection h with h4 h5; injection h5 with h5 h6; subst h4; subst h5; subst h6
            exact ⟨ρ1, k1, k2, k3, trivial⟩
          | ret =>
            cases ex <;> first | exact k4.elim | skip
            injection h with h; injection h with h4 h5; injection h5 with h5 h6; subst h4; subst h5; subst h6
            exact ⟨ρ1, k1, k2, k3, trivial⟩
          | pan v =>
            cases ex <;> first | exact k4.elim | skip
            injection h with h; injection h with h4 h5; injection h5 with h5 h6; subst h4; subst h5; subst h6
            exact ⟨ρ1, k1, k2, k3, k4⟩
    | exit id =>
      intro d ρ s w e a x e' s' hc _ _ hin hR hEn h
      simp only [codeC] at hc; injection hc with hc; subst hc
      simp only [exec] at h; injection h with h; injection h with h4 h5; injection h5 with h5 h6; subst h4; subst h5; subst h6
      exact wpIn_exit ⟨ρ, Went.refl hR, hEn, Kept.refl _, rfl⟩
    | ret =>
      intro d ρ s w e a x e' s' hc _ _ hin hR hEn h
      simp only [codeC] at hc; injection hc with hc; subst hc
      simp only [exec] at h; injection h with h; injection h with h4 h5; injection h5 with h5 h6; subst h4; subst h5; subst h6
      exact wpIn_ret ⟨ρ, Went.refl hR, hEn, Kept.refl _, trivial⟩
    | _ => intro d ρ s w e a x e' s' hc hsc; cases hsc

theorem wide_fn (f : FuncId) : Fence.wide.fn f := trivial
theorem wide_round_fn (l : Nat) (f : FuncId) : (Fence.wide.inRound l).fn f := trivial
end
end Go.D
