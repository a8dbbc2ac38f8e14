/-
  Functions known by contract.
-/
import Derived.Test.YtbecblfbikahkaaGreatDoorDj
import Derived.Lib.Builder
import Derived.Laws.Externs
import Derived.Test.YtbecblfbikahkaaGreatDoorDg
import Derived.Lib.Bytealg
import Derived.Lib.MakeNoZero
import Derived.Lib.Fields
import Derived.Lib.Strings
set_option linter.all false
set_option linter.deprecated false
namespace Go.D
open Go
namespace Cc
open Ms (piece runOps_then knownD_measure)
abbrev t (n : Nat) : Opd := .tmp n
abbrev o (d : Nat) (op : DOp) : DOper := ⟨some d, op, none⟩
abbrev u (op : DOp) : DOper := ⟨none, op, none⟩
def isNil : Option (Nat × Nat) → Bool | none => true | some _ => false
def k0 : DCode := .region [o 2 (.move (t 0)), o 3 (.nilCheck (t 2)), o 4 (.offset 0 (t 3)), o 5 (.load false 1 (t 4)), o 6 (.bin .eql 2 true (t 5) (.const (.ptr none)))]
def k1 : List DOper := [o 7 (.move (t 0)), o 8 (.move (t 0))]
def k1b : List DOper := [o 12 (.nilCheck (t 7)), o 13 (.offset 0 (t 12)), u (.store 1 (t 13) (t 11))]
def k2 : DCode := .region [o 14 (.move (t 0)), o 15 (.nilCheck (t 14)), o 16 (.offset 0 (t 15)), o 17 (.load false 1 (t 16)), o 18 (.move (t 0)), o 19 (.bin .neq 2 false (t 17) (t 18))]

structure CopyFn (P : Program) (T fe : Nat) (fn fne : Func) (tp tu : TypeId) (R0 R2 X : Code) (id1 : Nat) (o7 o8 o9 o10 o11 o12 o13 o14 : Oper) (ats : Array TypeId) (j : TypeInfo) : Prop where
  name : (fn.name == "runtime.NumGoroutine") = false
  body : fn.body = some (.seq R0 (.cond (.tmp 6) (.region id1 ⟨[o7, o8, o9, o10, o11, o12, o13, o14]⟩ false) (.seq R2 (.cond (.tmp 19) X .skip))))
  hR0 : codeC P R0 = some k0
  h1 : opersC P ⟨[o7, o8, o9, o10, o11, o12, o13, o14]⟩ [o7, o8] = some k1
  h1b : opersC P ⟨[o7, o8, o9, o10, o11, o12, o13, o14]⟩ [o12, o13, o14] = some k1b
  p9 : o9.op = .convert tp tu (.tmp 8) ∧ o9.dst = some 9 ∧ o9.guard = none
  p10 : o10.op = .call ⟨.value (.func fe), ⟨[.tmp 9]⟩, ats⟩ ∧ o10.dst = some 10 ∧ o10.guard = none
  p11 : o11.op = .convert tu tp (.tmp 10) ∧ o11.dst = some 11 ∧ o11.guard = none
  hR2 : codeC P R2 = some k2
  in0 : codeIn [] fn.ntmps R0 = true
  in1 : ([o7, o8].all fun o => dstIn [] fn.ntmps o.dst) = true
  in1b : ([o12, o13, o14].all fun o => dstIn [] fn.ntmps o.dst) = true
  in2 : codeIn [] fn.ntmps R2 = true
  room : 20 ≤ fn.ntmps
  res : fn.results = #[]
  utp : P.underlying tp = some (.pointer T)
  utu : P.underlying tu = some .unsafePointer
  ti : P.info? T = some j
  tsz : j.size ≠ 0
  lies : liesAt P P.depth T (2 / P.cellsOf T) 0 T 1 = true
  lone : selfC P T = true
  fe : P.funcs[fe]? = some fne
  fen : (fne.name == "runtime.NumGoroutine") = false
  feb : fne.body.isNone = true
  fe1 : Extern.findNext fne = none
  fe2 : Extern.find fne = some Extern.AbiNoEscape.same

theorem copy_of {T : Nat} {dargs : List DV} {s : St} {r : Out × St} (h : knownD (.copyCheck T) dargs s = some r) : ∃ b a x n, dargs = [.ptr (some (b, 0))] ∧ getB s b = some (.cells [.ptr a, x] T n) ∧
    ((a = none ∧ r = (.ret (.tuple []), setB s b (.cells [.ptr (some (b, 0)), x] T n))) ∨ (a = some (b, 0) ∧ r = (.ret (.tuple []), s))) := by
  match dargs, h with
  | [.ptr (some (b, 0))], h =>
    simp only [knownD] at h
    split at h
    · rename_i a x e n hg
      rcases Bool.eq_false_or_eq_true (Nat.beq e T) with hb | hb
      · rw [bif_true hb] at h
        have := Nat.eq_of_beq_eq_true hb; subst this
        refine ⟨b, a, x, n, rfl, hg, ?_⟩
        cases a with
        | none => injection h with h; exact .inl ⟨rfl, h.symm⟩
        | some cp =>
          obtain ⟨c, p⟩ := cp
          simp only at h
          rcases Bool.eq_false_or_eq_true (Nat.beq b c && Nat.beq 0 p) with h3 | h3
          · rw [bif_true h3] at h
            simp only [Bool.and_eq_true] at h3
            have h4 := Nat.eq_of_beq_eq_true h3.1; have h5 := Nat.eq_of_beq_eq_true h3.2
            subst h4; subst h5
            injection h with h; exact .inr ⟨rfl, h.symm⟩
          · rw [bif_false h3] at h; cases h
      · rw [bif_false hb] at h; cases h
    · cases h

variable {P : Program} {D : DProg}

theorem eval_put {a : Act} {d : Nat} {v : Value} (h : d + 1 ≤ a.tmps.size) : (a.put (some d) v).tmps.getD d undef = v := by
  simp only [Act.put, Array.getD_eq_getD_getElem?, Array.getElem?_setIfInBounds]
  have : d < a.tmps.size := h
  simp [this]
theorem eval_put' {a : Act} {d u : Nat} {v : Value} (h : d ≠ u) : (a.put (some d) v).tmps.getD u undef = a.tmps.getD u undef := by
  simp only [Act.put, Array.getD_eq_getD_getElem?, Array.getElem?_setIfInBounds]
  rw [if_neg h]

theorem copy_known {f T fe : Nat} {fn fne : Func} {tp tu : TypeId} {R0 R2 X : Code} {id1 : Nat} {o7 o8 o9 o10 o11 o12 o13 o14 : Oper} {ats : Array TypeId} {j : TypeInfo} (hE : ∀ n, ExecOk P D n) (hf : P.funcs[f]? = some fn)
    (C : CopyFn P T fe fn fne tp tu R0 R2 X id1 o7 o8 o9 o10 o11 o12 o13 o14 ats j) : KnownOk P f (knownD (.copyCheck T)) := by
  intro dargs ρ s w args out s' h hR hV
  obtain ⟨b, ad, x, nn, hd, hg, hcase⟩ := copy_of h
  clear h
  subst hd
  refine .inl ⟨run_enter hf C.name (by rw [C.body]; rfl) args, (callsIn_wide (n := 5)).1 (callsIn_of_wp hf C.body trivial ?_ rfl)⟩
  have hsz : fn.ntmps ≤ (args ++ Array.replicate (fn.ntmps - args.size) undef).size := by simp; omega
  have hE0 := envOf_sound (ρ := ρ) hV (fn.ntmps - args.size)
  have h00 : egt (envOf [DV.ptr (some (b, 0))] 0 .leaf) 0 = .ptr (some (b, 0)) := by rw [egt_envOf]; rfl
  generalize ha0 : ({ tmps := args ++ Array.replicate (fn.ntmps - args.size) undef, defers := [] } : Act) = a0
  have ha0t : a0.tmps = args ++ Array.replicate (fn.ntmps - args.size) undef := by rw [← ha0]
  have ha0d : a0.defers = [] := by rw [← ha0]
  rw [← ha0t] at hE0 hsz
  have hroom := C.room
  have hld : loadN s b (0 + 0) 1 = some [.ptr ad] := by simp only [loadN, hg]; rfl
  have hbin : ∀ c, binD .eql 2 c (.ptr ad) (.ptr none) = some (.bool (isNil ad)) := by
    intro c; cases ad <;> rfl
  refine wpIn_seq ?_
  obtain ⟨e1, g1, g2, g3⟩ : ∃ e', exec D 1 k0 (envOf [DV.ptr (some (b, 0))] 0 .leaf) s = some (.norm, e', s) ∧ egt e' 6 = .bool (isNil ad) ∧ egt e' 0 = .ptr (some (b, 0)) := by
    refine ⟨eput (eput (eput (eput (eput (envOf [DV.ptr (some (b, 0))] 0 .leaf) 2 (.ptr (some (b, 0)))) 3 (.ptr (some (b, 0)))) 4 (.ptr (some (b, 0 + 0)))) 5 (.ptr ad)) 6 (.bool (isNil ad)), ?_, by simp [egt_eput], by simp [egt_eput, h00]⟩
    have e0 : exec D 1 k0 (envOf [DV.ptr (some (b, 0))] 0 .leaf) s = runOps (callF D (exec D 0)) [o 2 (.move (t 0)), o 3 (.nilCheck (t 2)), o 4 (.offset 0 (t 3)), o 5 (.load false 1 (t 4)), o 6 (.bin .eql 2 true (t 5) (.const (.ptr none)))] (envOf [DV.ptr (some (b, 0))] 0 .leaf) s := rfl
    rw [e0]
    simp only [runOps, doOp, askG, afterOp, opD, ev, h00, valO, put, egt_eput, opNilCheck, opOffset, ↓reduceIte, opLoad, loadV, hld, hbin]
  refine wpIn_mono (piece hE C.hR0 (codeIn_mono hsz C.in0) hR hE0 g1) ?_
  intro ex a1 w1 hp
  obtain ⟨ρ1, k1', k2', k3', k4'⟩ := hp
  cases ex <;> first | exact k4'.elim | skip
  have k2' : EnvR ρ1 e1 a1.tmps := k2'
  have rm1 : fn.ntmps ≤ a1.tmps.size := by rw [k3'.size]; exact hsz
  have ev6 : a1.eval (.tmp 6) = .bool (isNil ad) := by
    have := k2' 6
    rw [g2] at this
    exact Ms.bool_of this
  have fin : ∀ (a' : Act) (w' : World) (ρ' : Mp) (s2 : St), a'.defers = [] → Went P ρ s w ρ' s2 w' → bodyPost P fn (EndR P ρ s w (.ret (.tuple [])) s2) .normal a' w' := by
    intro a' w' ρ' s2 hd hw
    exact ⟨hd, .tuple #[], results_none C.res _, .tuple [], ρ', rfl, .tuple .nil, hw⟩
  rcases hcase with ⟨rfl, hr⟩ | ⟨rfl, hr⟩
  · -- a new one
    injection hr with r1 r2; subst out; subst s'
    refine wpIn_cond_true ev6 (wpIn_region_list ?_)
    show wpListIn Fence.wide 5 P ⟨[o7, o8, o9, o10, o11, o12, o13, o14]⟩ _ ([o7, o8] ++ [o9, o10, o11, o12, o13, o14]) a1 w1
    refine runOps_then (F := []) (call := fun _ _ _ => none) wide_fn [o7, o8] k1 ρ1 s w1 e1 a1 C.h1 rfl (fun o' ho' => ?_) k1'.rel k2' (e' := eput (eput e1 7 (.ptr (some (b, 0)))) 8 (.ptr (some (b, 0)))) (s' := s) ?_ ?_
    · have := List.all_eq_true.1 C.in1 o' ho'
      cases hd : o'.dst with
      | none => rfl
      | some t => rw [hd] at this; exact dstIn_mono rm1 this
    · simp only [k1, runOps, doOp, askG, afterOp, opD, ev, put, egt_eput, g3, ↓reduceIte, Nat.reduceEqDiff]
    intro ρ2 a2 w2 j1 j2 j3
    have rm2 : fn.ntmps ≤ a2.tmps.size := by rw [j3.size]; exact rm1
    have went2 := Went.trans hR k1' j1
    -- the address
    have v8 := j2 8
    rw [egt_eput, if_pos rfl] at v8
    obtain ⟨bi, hbi, hv8⟩ : ∃ bi, ρ2 b = some bi ∧ a2.tmps.getD 8 undef = .pointer (some ⟨bi.blk, bi.base + 0, none⟩) := by
      generalize a2.tmps.getD 8 undef = vv at v8
      cases v8 with
      | ptr h => exact ⟨_, h, rfl⟩
    obtain ⟨hb0, hblim⟩ := went2.rel.lone b bi _ hbi hg C.lone
    obtain ⟨rc, lo, hi, q1, q2, q3, q4, q5, q6⟩ := went2.rel.obj b bi _ hbi hg
    have hsh : w2.shape? bi.blk = some (T, 2) := by
      simp only [World.shape?, q1]
      have : rc.size = 2 := by rw [q2, hblim]; rfl
      simp [this]
    have conv1 : (convert tp tu (.pointer (some ⟨bi.blk, bi.base + 0, none⟩))).run P w2 = .ok (.pointer (some ⟨bi.blk, bi.base + 0, none⟩)) w2 :=
      Lib.run_to_unsafe w2 ⟨bi.blk, bi.base + 0, none⟩ C.utp C.utu C.ti C.tsz hsh (by show bi.base + 0 < 2; omega)
    have conv2 : (convert tu tp (.pointer (some ⟨bi.blk, bi.base + 0, none⟩))).run P w2 = .ok (.pointer (some ⟨bi.blk, bi.base + 0, none⟩)) w2 :=
      Lib.run_from_unsafe w2 ⟨bi.blk, bi.base + 0, none⟩ C.utu C.utp C.ti hsh (by show liesAt P P.depth T (2 / P.cellsOf T) (bi.base + 0) T 1 = true; rw [hb0]; exact C.lies)
    -- the three that D has not
    refine wpListIn_plain C.p9.2.2 (fun K hK => ⟨fun _ _ => trivial, ?_⟩)
    have e9 : (o9.semAt Fence.wide.round a2.eval).run P w2 = .ok (.value (.pointer (some ⟨bi.blk, bi.base + 0, none⟩))) w2 := by
      rw [Oper.semAt_eq _ _ _ (fun c h => by rw [C.p9.1] at h; cases h)]
      simp only [execOp, C.p9.1, Act.eval, hv8, Sem.run_bind, conv1, Result.andThen_ok, Sem.run_pure]
    rw [e9, Oper.uponIn_value, C.p9.2.1]
    refine hK _ _ ?_
    have d9 : dstIn [] a2.tmps.size (some 9) = true := by simp [dstIn]; omega
    have E9 := EnvR.put (F := []) j2 d9 (VR.ptr (o := 0) hbi)
    have K9 := Kept.put (F := []) d9 (.pointer (some ⟨bi.blk, bi.base + 0, none⟩))
    have t9 := eval_put (a := a2) (d := 9) (v := .pointer (some ⟨bi.blk, bi.base + 0, none⟩)) (by omega)
    generalize ha3 : a2.put (some 9) (.pointer (some ⟨bi.blk, bi.base + 0, none⟩)) = a3 at E9 K9 t9 ⊢
    refine wpListIn_plain C.p10.2.2 (fun K2 hK2 => ⟨fun _ _ => trivial, ?_⟩)
    have e10 : (o10.semAt Fence.wide.round a3.eval).run P w2 = .ok (.value (.pointer (some ⟨bi.blk, bi.base + 0, none⟩))) w2 := by
      rw [Oper.semAt_eq _ _ _ (fun c h => by rw [C.p10.1] at h; cases h)]
      simp only [execOp, C.p10.1, resolve, Act.eval, Deferred.ofValue, Sem.run_bind, Sem.run_pure, Result.andThen_ok, invoke, List.map_toArray, List.map_cons, List.map_nil, t9]
      show (callFunc fe #[.pointer (some ⟨bi.blk, bi.base + 0, none⟩)]).run P w2 = _
      rw [run_callFunc_extern C.fe C.fen C.feb C.fe1 C.fe2, Lib.run_noEscape]
      rfl
    rw [e10, Oper.uponIn_value, C.p10.2.1]
    refine hK2 _ _ ?_
    have s3 : a3.tmps.size = a2.tmps.size := K9.size
    have d10 : dstIn [] a3.tmps.size (some 10) = true := by simp [dstIn]; omega
    have E10 := EnvR.put (F := []) E9 d10 (VR.ptr (o := 0) hbi)
    have K10 := Kept.put (F := []) d10 (.pointer (some ⟨bi.blk, bi.base + 0, none⟩))
    have t10 := eval_put (a := a3) (d := 10) (v := .pointer (some ⟨bi.blk, bi.base + 0, none⟩)) (by omega)
    generalize ha4 : a3.put (some 10) (.pointer (some ⟨bi.blk, bi.base + 0, none⟩)) = a4 at E10 K10 t10 ⊢
    refine wpListIn_plain C.p11.2.2 (fun K3 hK3 => ⟨fun _ _ => trivial, ?_⟩)
    have e11 : (o11.semAt Fence.wide.round a4.eval).run P w2 = .ok (.value (.pointer (some ⟨bi.blk, bi.base + 0, none⟩))) w2 := by
      rw [Oper.semAt_eq _ _ _ (fun c h => by rw [C.p11.1] at h; cases h)]
      simp only [execOp, C.p11.1, Act.eval, t10, Sem.run_bind, conv2, Result.andThen_ok, Sem.run_pure]
    rw [e11, Oper.uponIn_value, C.p11.2.1]
    refine hK3 _ _ ?_
    have s4 : a4.tmps.size = a3.tmps.size := K10.size
    have d11 : dstIn [] a4.tmps.size (some 11) = true := by simp [dstIn]; omega
    have E11 := EnvR.put (F := []) E10 d11 (VR.ptr (o := 0) hbi)
    have K11 := Kept.put (F := []) d11 (.pointer (some ⟨bi.blk, bi.base + 0, none⟩))
    generalize ha5 : a4.put (some 11) (.pointer (some ⟨bi.blk, bi.base + 0, none⟩)) = a5 at E11 K11 ⊢
    have kk5 := ((k3'.trans j3).trans K9).trans (K10.trans K11)
    generalize he5 : put (put (put (eput (eput e1 7 (.ptr (some (b, 0)))) 8 (.ptr (some (b, 0)))) (some 9) (.ptr (some (b, 0)))) (some 10) (.ptr (some (b, 0)))) (some 11) (.ptr (some (b, 0))) = e5 at E11
    have f7 : egt e5 7 = .ptr (some (b, 0)) := by rw [← he5]; simp [put, egt_eput]
    have f11 : egt e5 11 = .ptr (some (b, 0)) := by rw [← he5]; simp [put, egt_eput]
    have hst : opStore s 1 (.ptr (some (b, 0 + 0))) (.ptr (some (b, 0))) = some (undefD, setB s b (.cells [.ptr (some (b, 0)), x] T nn)) := by
      simp only [opStore, DV.cells, storeN, hg]; rfl
    refine runOps_in (F := []) (call := fun _ _ _ => none) wide_fn [o12, o13, o14] k1b ρ2 s w2 e5 a5 _ C.h1b rfl (fun o' ho' => ?_) went2.rel E11 (x := .norm) (e' := eput (eput e5 12 (.ptr (some (b, 0)))) 13 (.ptr (some (b, 0 + 0)))) (s' := setB s b (.cells [.ptr (some (b, 0)), x] T nn)) ?_ ?_
    · have := List.all_eq_true.1 C.in1b o' ho'
      cases hd : o'.dst with
      | none => rfl
      | some t => rw [hd] at this; exact dstIn_mono (by rw [kk5.size]; exact hsz) this
    · simp only [k1b, runOps, doOp, askG, afterOp, opD, ev, put, egt_eput, f7, f11, ↓reduceIte, Nat.reduceEqDiff, opNilCheck, opOffset, hst]
    intro ex a6 w6 hp
    obtain ⟨ρ6, v1, v2, v3, v4⟩ := hp
    cases ex <;> first | exact v4.elim | skip
    exact fin a6 w6 ρ6 _ (by rw [v3.defers, kk5.defers, ha0d]) (Went.trans hR went2 v1)
  · -- one that is used
    injection hr with r1 r2; subst out; subst s'
    refine wpIn_cond_false ev6 (wpIn_seq ?_)
    obtain ⟨e2, i1, i2⟩ : ∃ e', exec D 1 k2 e1 s = some (.norm, e', s) ∧ egt e' 19 = .bool false := by
      refine ⟨eput (eput (eput (eput (eput (eput e1 14 (.ptr (some (b, 0)))) 15 (.ptr (some (b, 0)))) 16 (.ptr (some (b, 0 + 0)))) 17 (.ptr (some (b, 0)))) 18 (.ptr (some (b, 0)))) 19 (.bool false), ?_, by simp [egt_eput]⟩
      have hbin2 : binD .neq 2 false (.ptr (some (b, 0))) (.ptr (some (b, 0))) = some (.bool false) := by
        simp only [binD, binOther, eqD, opEq, Nat.beq_refl, cond_true]; rfl
      have e0 : exec D 1 k2 e1 s = runOps (callF D (exec D 0)) [o 14 (.move (t 0)), o 15 (.nilCheck (t 14)), o 16 (.offset 0 (t 15)), o 17 (.load false 1 (t 16)), o 18 (.move (t 0)), o 19 (.bin .neq 2 false (t 17) (t 18))] e1 s := rfl
      rw [e0]
      simp only [runOps, doOp, askG, afterOp, opD, ev, g3, valO, put, egt_eput, opNilCheck, opOffset, ↓reduceIte, Nat.reduceEqDiff, opLoad, loadV, hld, hbin2]
    refine wpIn_mono (piece hE C.hR2 (codeIn_mono rm1 C.in2) k1'.rel k2' i1) ?_
    intro ex a2 w2 hp
    obtain ⟨ρ2, j1, j2, j3, j4⟩ := hp
    cases ex <;> first | exact j4.elim | skip
    have j2 : EnvR ρ2 e2 a2.tmps := j2
    have ev19 : a2.eval (.tmp 19) = .bool false := by
      have := j2 19
      rw [i2] at this
      exact Ms.bool_of this
    refine wpIn_cond_false ev19 (wpIn_skip ?_)
    exact fin a2 w2 ρ2 _ (by rw [j3.defers, k3'.defers, ha0d]) (Went.trans hR k1' j1)
end Cc
end Go.D
namespace Go.D
open Go
variable {P : Program}

theorem byte_eq (b : UInt8) (c : Nat) (h : c ≤ 255) : Nat.beq b.toNat c = (b == c.toUInt8) := by
  rcases Nat.lt_or_ge c 256 with hc | hc
  · have hc' : c.toUInt8.toNat = c := by simp [Nat.toUInt8]; omega
    rw [Bool.eq_iff_iff]
    constructor
    · intro h1
      have := Nat.eq_of_beq_eq_true h1
      have h2 : b = c.toUInt8 := UInt8.toNat_inj.1 (by rw [hc']; exact this)
      simp [h2]
    · intro h1
      have h2 : b = c.toUInt8 := by simpa using h1
      have h3 : b.toNat = c := by rw [h2, hc']
      rw [h3]; exact Nat.beq_refl c
  · omega

theorem findIx_lib (c : Nat) (hc : c ≤ 255) : ∀ (l : List UInt8) (i : Nat), findIx c (l.map UInt8.toNat) i = if Lib.indexByte l c.toUInt8 = -1 then -1 else Lib.indexByte l c.toUInt8 + i
  | [], i => by simp [findIx, Lib.indexByte]
  | b :: l, i => by
    have ge := Lib.indexByte_ge l c.toUInt8
    have e1 : findIx c ((b :: l).map UInt8.toNat) i = bif (b == c.toUInt8) then Int.ofNat i else findIx c (l.map UInt8.toNat) (Nat.succ i) := by
      rw [← byte_eq b c hc]; rfl
    rw [e1, findIx_lib c hc l (Nat.succ i)]
    by_cases h : b = c.toUInt8
    · have e2 : Lib.indexByte (b :: l) c.toUInt8 = 0 := by simp [Lib.indexByte, h]
      rw [e2]; simp [h]
    · have h' : (b == c.toUInt8) = false := by simp [h]
      by_cases h1 : Lib.indexByte l c.toUInt8 = -1
      · have e2 : Lib.indexByte (b :: l) c.toUInt8 = -1 := by simp [Lib.indexByte, h, h1]
        rw [e2, h']; simp [h1]
      · have e2 : Lib.indexByte (b :: l) c.toUInt8 = Lib.indexByte l c.toUInt8 + 1 := by simp [Lib.indexByte, h, h1]
        have h2 : ¬ (Lib.indexByte l c.toUInt8 + 1 = -1) := by omega
        rw [e2, h']; simp [h1, h2]; omega

theorem countIx_lib (c : Nat) (hc : c ≤ 255) : ∀ (l : List UInt8) (n : Nat), countIx c (l.map UInt8.toNat) n = n + Lib.countByte l c.toUInt8
  | [], n => by simp [countIx, Lib.countByte]
  | b :: l, n => by
    simp only [List.map_cons, countIx, Lib.countByte, List.count_cons]
    rw [byte_eq b c hc, countIx_lib c hc l, countIx_lib c hc l]
    rcases Bool.eq_false_or_eq_true (b == c.toUInt8) with h | h
    · rw [h]; simp [Lib.countByte]; omega
    · rw [h]; simp [Lib.countByte]

theorem args_two {a b : Value} {args : Array Value} (h : args.toList = [a, b]) : args = #[a, b] := by
  cases args; simp at h; simp [h]
theorem args_one {a : Value} {args : Array Value} (h : args.toList = [a]) : args = #[a] := by
  cases args; simp at h; simp [h]

theorem two_of {ρ : Mp} {d e : DV} {args : Array Value} (h : VRs ρ [d, e] args.toList) : ∃ a b, args = #[a, b] ∧ VR ρ d a ∧ VR ρ e b := by
  generalize hl : args.toList = l at h
  cases h with
  | cons h1 t => cases t with
    | cons h2 t => cases t; exact ⟨_, _, args_two hl, h1, h2⟩
theorem one_of {ρ : Mp} {d : DV} {args : Array Value} (h : VRs ρ [d] args.toList) : ∃ a, args = #[a] ∧ VR ρ d a := by
  generalize hl : args.toList = l at h
  cases h with
  | cons h1 t => cases t; exact ⟨_, args_one hl, h1⟩
theorem str_of {ρ : Mp} {l : List Nat} {v : Value} (h : VR ρ (.str l) v) : ∃ s : ByteArray, v = .string s ∧ l = s.data.toList.map UInt8.toNat := by
  generalize hd : DV.str l = d at h
  cases h with
  | str s => injection hd with hd; exact ⟨s, rfl, hd⟩
  | _ => cases hd
theorem int_of' {ρ : Mp} {k : IntKind} {n : Int} {v : Value} (h : VR ρ (.int k n) v) : v = .int k n := by
  cases h; rfl

theorem index_of {dargs : List DV} {s : St} {r : Out × St} (h : knownD .indexByte dargs s = some r) : ∃ l c, dargs = [.str l, .int .u8 (.ofNat c)] ∧ c ≤ 255 ∧ r = (.ret (.int .i64 (findIx c l 0)), s) := by
  match dargs, h with
  | [.str l, .int .u8 (.ofNat c)], h =>
    simp only [knownD] at h
    rcases Bool.eq_false_or_eq_true (Nat.ble c 255) with hb | hb
    · rw [hb] at h; injection h with h; exact ⟨l, c, rfl, Nat.le_of_ble_eq_true hb, h.symm⟩
    · rw [hb] at h; cases h
theorem count_of {dargs : List DV} {s : St} {r : Out × St} (h : knownD .countByte dargs s = some r) : ∃ l c, dargs = [.str l, .int .u8 (.ofNat c)] ∧ c ≤ 255 ∧ r = (.ret (.int .i64 (.ofNat (countIx c l 0))), s) := by
  match dargs, h with
  | [.str l, .int .u8 (.ofNat c)], h =>
    simp only [knownD] at h
    rcases Bool.eq_false_or_eq_true (Nat.ble c 255) with hb | hb
    · rw [hb] at h; injection h with h; exact ⟨l, c, rfl, Nat.le_of_ble_eq_true hb, h.symm⟩
    · rw [hb] at h; cases h
theorem row_of {t : Nat} {dargs : List DV} {s : St} {r : Out × St} (h : knownD (.makeNoZero t) dargs s = some r) : ∃ n, dargs = [.int .i64 (.ofNat n)] ∧ n ≤ most ∧ r = (.ret (.slice (some (s.next, 0)) n), alloc s (.cells [] t 1)) := by
  match dargs, h with
  | [.int .i64 (.ofNat n)], h =>
    simp only [knownD] at h
    rcases Bool.eq_false_or_eq_true (Nat.ble n most) with hb | hb
    · rw [hb] at h; injection h with h; exact ⟨n, rfl, Nat.le_of_ble_eq_true hb, h.symm⟩
    · rw [hb] at h; cases h
theorem prefix_of {dargs : List DV} {s : St} {r : Out × St} (h : knownD .hasPrefix dargs s = some r) : ∃ l p, dargs = [.str l, .str p] ∧ r = (.ret (.bool (isPre p l)), s) := by
  match dargs, h with
  | [.str l, .str p], h => simp only [knownD] at h; injection h with h; exact ⟨l, p, rfl, h.symm⟩

structure ExternFn (P : Program) (f : Nat) (e : Array Value → Sem Value) : Prop where
  out : ∃ fn, P.funcs[f]? = some fn ∧ (fn.name == "runtime.NumGoroutine") = false ∧ fn.body.isNone = true ∧ Extern.findNext fn = none ∧ Extern.find fn = some e

theorem upon_extern {f : Nat} {e : Array Value → Sem Value} {ρ : Mp} {s : St} {w : World} {args : Array Value} {dv : DV} {v : Value} {s' : St} {w' : World} {ρ' : Mp} (E : ExternFn P f e) (h : (e args).run P w = .ok v w') (hv : VR ρ' dv v) (hw : Went P ρ s w ρ' s' w') :
    UponCall P ρ s w (.ret dv) s' f args := by
  obtain ⟨fn, h1, h2, h3, h4, h5⟩ := E.out
  refine .inr ⟨v, w', ?_, dv, ρ', rfl, hv, hw⟩
  rw [run_callFunc_extern h1 h2 h3 h4 h5, h]; rfl

theorem index_known {f : Nat} (E : ExternFn P f Extern.BytealgIndexByte.indexByte) : KnownOk P f (knownD .indexByte) := by
  intro dargs ρ s w args out s' h hR hV
  obtain ⟨l, c, hd, hc, hr⟩ := index_of h
  injection hr with r1 r2; subst out; subst s'; subst hd
  obtain ⟨a, b, ha, v1, v2⟩ := two_of hV
  obtain ⟨x, hx, hl⟩ := str_of v1
  have hb := int_of' v2
  subst ha; subst hx; subst hb; subst hl
  refine upon_extern E (Lib.run_indexByteString x (.ofNat c) w) ?_ (Went.refl hR)
  rw [findIx_lib c hc]
  have ge := Lib.indexByte_ge x.data.toList c.toUInt8
  by_cases h1 : Lib.indexByte x.data.toList c.toUInt8 = -1
  · rw [if_pos h1]; show VR ρ _ (.int .i64 (Lib.indexByte x.data.toList c.toUInt8)); rw [h1]; exact .int _ _
  · rw [if_neg h1]; simp; exact .int _ _

theorem count_known {f : Nat} (E : ExternFn P f Extern.BytealgCount.count) : KnownOk P f (knownD .countByte) := by
  intro dargs ρ s w args out s' h hR hV
  obtain ⟨l, c, hd, hc, hr⟩ := count_of h
  injection hr with r1 r2; subst out; subst s'; subst hd
  obtain ⟨a, b, ha, v1, v2⟩ := two_of hV
  obtain ⟨x, hx, hl⟩ := str_of v1
  have hb := int_of' v2
  subst ha; subst hx; subst hb; subst hl
  refine upon_extern E (Lib.run_countString x (.ofNat c) w) ?_ (Went.refl hR)
  rw [countIx_lib c hc, Nat.zero_add]
  exact .int _ _

theorem row_known {f e t : Nat} {ps : Array TypeId} (E : ExternFn P f (Extern.BytealgMakeNoZero.makeNoZero ps #[t])) (ht : P.underlying t = some (.slice e)) (hs : selfC P e = false) : KnownOk P f (knownD (.makeNoZero e)) := by
  intro dargs ρ s w args out s' h hR hV
  obtain ⟨n, hd, hn, hr⟩ := row_of h
  injection hr with r1 r2; subst out; subst s'; subst hd
  obtain ⟨a, ha, v1⟩ := one_of hV
  have hb := int_of' v1
  subst ha; subst hb
  obtain ⟨cs, h1, h2, h3⟩ := Lib.run_makeNoZero (P := P) (w := w) ps t e ht n (Nat.le_trans hn (by decide))
  have hw := new_row hR (cs := []) (vs := cs) e 1 (by simp) (by simp; exact .nil) (w' := w.drew.drew.alloc (.cells cs e)) ⟨rfl, rfl, rfl, rfl⟩ (fun h => absurd h (by rw [hs]; exact Bool.false_ne_true))
  refine upon_extern E h1 ?_ hw
  have := VR.slice (ρ := upd ρ s.next ⟨w.heap.size, 0, cs.size, 1⟩) (b := s.next) (o := 0) (n := n) (c := cs.size) (upd_self _ _ _) h2 (by simp)
  simpa using this

theorem isPre_lib : ∀ (p l : List UInt8), isPre (p.map UInt8.toNat) (l.map UInt8.toNat) = Lib.hasPrefix l p
  | [], l => by cases l <;> rfl
  | _ :: _, [] => rfl
  | a :: p, b :: l => by
    have hx : Nat.beq a.toNat b.toNat = (a == b) := by
      rw [Bool.eq_iff_iff]
      constructor
      · intro h; have := UInt8.toNat_inj.1 (Nat.eq_of_beq_eq_true h); simp [this]
      · intro h; have : a = b := by simpa using h
        subst this; exact Nat.beq_refl _
    have ih := isPre_lib p l
    simp only [Lib.hasPrefix] at ih
    simp only [List.map_cons, isPre, Lib.hasPrefix, List.isPrefixOf_cons₂, ih, hx]
    cases (a == b) <;> rfl

theorem prefix_known {f : Nat} {fn : Func} (hf : P.funcs[f]? = some fn) (hn : (fn.name == "runtime.NumGoroutine") = false) (hb : fn.body.isNone = false)
    (H : ∀ (s p : ByteArray) (w : World), Calls P f #[.string s, .string p] w fun e w' => e = .returned (.bool (Lib.hasPrefix s.data.toList p.data.toList)) ∧ w' = w) : KnownOk P f (knownD .hasPrefix) := by
  intro dargs ρ s w args out s' h hR hV
  obtain ⟨l, p, hd, hr⟩ := prefix_of h
  injection hr with r1 r2; subst out; subst s'; subst hd
  obtain ⟨a, b, ha, v1, v2⟩ := two_of hV
  obtain ⟨x, hx, hl⟩ := str_of v1
  obtain ⟨y, hy, hp⟩ := str_of v2
  subst ha; subst hx; subst hy; subst hl; subst hp
  refine .inl ⟨run_enter hf hn hb _, (H x y w).mono ?_⟩
  rintro e w' ⟨rfl, rfl⟩
  exact ⟨_, ρ, rfl, by rw [isPre_lib]; exact .bool _, Went.refl hR⟩
end Go.D
namespace Go.D
open Go
variable {P : Program}

set_option maxRecDepth 100000 in
theorem isSp_lib (b : UInt8) : isSpN b.toNat = Lib.isSp b := by
  have key : ∀ n : Nat, n < 256 → isSpN n = Lib.isSp (UInt8.ofNat n) := by decide
  have := key b.toNat b.toNat_lt
  simpa using this

theorem allLt_lib {l : List Nat} (h : allLt 128 l = true) : ∀ (j b : Nat), l[j]? = some b → b < 128 := by
  induction l with
  | nil => intro j b hj; simp at hj
  | cons a l ih =>
    unfold allLt at h
    rcases Bool.eq_false_or_eq_true (Nat.ble (Nat.succ a) 128) with hb | hb
    · rw [hb] at h
      intro j b hj
      cases j with
      | zero => simp at hj; subst hj; exact Nat.le_of_ble_eq_true hb
      | succ j => simp at hj; exact ih h j b hj
    · rw [hb] at h; cases h

theorem isTab_lib : ∀ (cs : List DV) (i : Nat), isTab i cs = true → i + cs.length = 256 ∧ ∀ c, i ≤ c → c < 256 → cs[c - i]? = some (.int .u8 (.ofNat (bif isSpN c then 1 else 0)))
  | [], i, h => by
    have h : Nat.beq i 256 = true := by simpa [isTab] using h
    have := Nat.eq_of_beq_eq_true h
    exact ⟨by simp; omega, fun c h1 h2 => by omega⟩
  | d :: cs, i, h => by
    match d, h with
    | .int .u8 (.ofNat n), h =>
      unfold isTab at h
      rcases Bool.eq_false_or_eq_true (Nat.beq n (bif isSpN i then 1 else 0)) with hb | hb
      · rw [hb] at h
        obtain ⟨h1, h2⟩ := isTab_lib cs (Nat.succ i) h
        have hn := Nat.eq_of_beq_eq_true hb
        refine ⟨by simp; omega, fun c h3 h4 => ?_⟩
        rcases Nat.eq_or_lt_of_le h3 with h5 | h5
        · subst h5; simp [hn]
        · have := h2 c h5 h4
          have e : c - i = (c - Nat.succ i) + 1 := by omega
          rw [e]; simpa using this
      · rw [hb] at h; cases h

theorem words_lib : ∀ (l cur : List UInt8), wordsN (cur.reverse.map UInt8.toNat) (l.map UInt8.toNat) = (Lib.fieldsGo cur l).map fun w => w.map UInt8.toNat
  | [], cur => by
    cases h : cur.reverse with
    | nil => have : cur = [] := by simpa using h
             subst this; rfl
    | cons a r =>
      have hc : cur ≠ [] := by intro h0; subst h0; simp at h
      have e : (Lib.fieldsGo cur []) = [cur] := by simp [Lib.fieldsGo, hc]
      rw [e]
      show [(List.map UInt8.toNat (a :: r)).reverse] = _
      rw [← h]; simp
  | b :: l, cur => by
    simp only [List.map_cons, wordsN, Lib.fieldsGo]
    rw [isSp_lib]
    rcases Bool.eq_false_or_eq_true (Lib.isSp b) with hb | hb
    · rw [hb]
      simp only [cond_true, if_true]
      have ih := words_lib l []
      cases h : cur.reverse with
      | nil => have : cur = [] := by simpa using h
               subst this
               simpa using ih
      | cons a r =>
        have hc : cur ≠ [] := by intro h0; subst h0; simp at h
        have e : cur.isEmpty = false := by simp [hc]
        rw [e]
        show (List.map UInt8.toNat (a :: r)).reverse :: wordsN [] (l.map UInt8.toNat) = _
        rw [← h]
        have ih' : wordsN [] (l.map UInt8.toNat) = (Lib.fieldsGo [] l).map fun w => w.map UInt8.toNat := by simpa using ih
        rw [ih']; simp
    · rw [hb]
      have ih := words_lib l (cur ++ [b])
      simpa using ih

theorem strsD_rel {ρ : Mp} : ∀ (l : List (List UInt8)), VRs ρ (strsD (l.map fun w => w.map UInt8.toNat)) (l.map fun w => Value.string ⟨w.toArray⟩)
  | [] => .nil
  | w :: l => by
    refine .cons ?_ (strsD_rel l)
    have := VR.str (ρ := ρ) ⟨w.toArray⟩
    simpa using this

/-- a text's words, of a text that is not too long -/
def fieldsB (g e : Nat) (dargs : List DV) (s : St) : Option (Out × St) := match dargs with
  | [.str l] => bif Nat.ble (len l) 1000000 then knownD (.fields g e) dargs s else none
  | _ => none

theorem fields_of {g e : Nat} {dargs : List DV} {s : St} {r : Out × St} (h : fieldsB g e dargs s = some r) : ∃ l cs el n, dargs = [.str l] ∧ l.length ≤ 1000000 ∧ getB s g = some (.cells cs el n) ∧ allLt 128 l = true ∧ isTab 0 cs = true ∧
    r = (.ret (.slice (some (s.next, 0)) (len (wordsN [] l))), alloc s (.cells (strsD (wordsN [] l)) e 1)) := by
  match dargs, h with
  | [.str l], h =>
    simp only [fieldsB] at h
    rcases Bool.eq_false_or_eq_true (Nat.ble (len l) 1000000) with hl | hl
    · rw [hl] at h
      have hl := Nat.le_of_ble_eq_true hl
      rw [len_eq] at hl
      simp only [cond_true, knownD] at h
      split at h
      · rename_i cs el n hg
        rcases Bool.eq_false_or_eq_true (allLt 128 l && isTab 0 cs) with hb | hb
        · rw [hb] at h
          simp only [Bool.and_eq_true] at hb
          injection h with h
          exact ⟨l, cs, el, n, rfl, hl, hg, hb.1, hb.2, h.symm⟩
        · rw [hb] at h; cases h
      · cases h
    · rw [hl] at h; cases h

theorem fields_known {f g e : Nat} {fn : Func} (hf : P.funcs[f]? = some fn) (hn : (fn.name == "runtime.NumGoroutine") = false) (hb : fn.body.isNone = false) (hg : g < P.globals.size) (hsl : selfC P e = false)
    (H : ∀ (s : ByteArray) (w : World), s.size < 4294967281 → (∀ (j : Nat) b, s.data.toList[j]? = some b → b.toNat < 128) → (∀ c : Nat, c < 256 → w.cell? ⟨g, c, none⟩ = some (.int .u8 (if Lib.isSp (UInt8.ofNat c) then 1 else 0))) →
      Calls P f #[.string s] w fun en w' => en = .returned (.slice (some ⟨w.heap.size, 0, none⟩) (Lib.fields s.data.toList).length (Lib.fields s.data.toList).length) ∧ w' = w.alloc (.cells ((Lib.fields s.data.toList).map fun l => Value.string ⟨l.toArray⟩).toArray e)) :
    KnownOk P f (fieldsB g e) := by
  intro dargs ρ s w args out s' h hR hV
  obtain ⟨l, cs, el, n, hd, hlen, hgb, hlt, htab, hr⟩ := fields_of h
  injection hr with r1 r2; subst out; subst s'; subst hd
  obtain ⟨a, ha, v1⟩ := one_of hV
  obtain ⟨x, hx, hl⟩ := str_of v1
  subst ha; subst hx; subst hl
  obtain ⟨bi, hbi, hblk, hbase⟩ := hR.glob g hg
  have hT : ∀ c : Nat, c < 256 → w.cell? ⟨g, c, none⟩ = some (.int .u8 (if Lib.isSp (UInt8.ofNat c) then 1 else 0)) := by
    intro c hc
    have h1 := (isTab_lib cs 0 htab).2 c (Nat.zero_le _) hc
    obtain ⟨v, h2, h3⟩ := cellR hR hbi hgb h1
    rw [hblk, hbase] at h2
    simp only [Nat.sub_zero, Nat.zero_add] at h2
    rw [h2, int_of' h3]
    have h4 := isSp_lib (UInt8.ofNat c)
    have h5 : (UInt8.ofNat c).toNat = c := by simp; omega
    rw [h5] at h4
    rw [h4]
    cases Lib.isSp (UInt8.ofNat c) <;> rfl
  have hasc : ∀ (j : Nat) b, x.data.toList[j]? = some b → b.toNat < 128 := by
    intro j b hj
    refine allLt_lib hlt j b.toNat ?_
    simp [hj]
  have hsz : x.size < 4294967281 := by
    have : x.size = x.data.toList.length := by simp only [ByteArray.size, Array.length_toList]
    rw [List.length_map] at hlen
    omega
  have hw0 : wordsN [] (x.data.toList.map UInt8.toNat) = (Lib.fields x.data.toList).map fun w => w.map UInt8.toNat := words_lib x.data.toList []
  refine .inl ⟨run_enter hf hn hb _, (H x w hsz hasc hT).mono ?_⟩
  rintro en w' ⟨rfl, rfl⟩
  rw [hw0, len_eq]
  have hrel := strsD_rel (ρ := ρ) (Lib.fields x.data.toList)
  generalize Lib.fields x.data.toList = W at hrel ⊢
  have hlen2 : (strsD (W.map fun w => w.map UInt8.toNat)).length = W.length := by rw [hrel.length]; simp
  have hw := new_row hR (cs := strsD (W.map fun w => w.map UInt8.toNat)) (vs := (W.map fun l => Value.string ⟨l.toArray⟩).toArray) e 1 (by rw [hlen2]; simp)
    (by rw [hlen2, List.take_of_length_le (by simp)]; exact hrel) (Alike.refl _) (fun h => absurd h (by rw [hsl]; exact Bool.false_ne_true))
  refine ⟨_, _, rfl, ?_, hw⟩
  have := VR.slice (ρ := upd ρ s.next ⟨w.heap.size, 0, (W.map fun l => Value.string ⟨l.toArray⟩).toArray.size, 1⟩) (b := s.next) (o := 0) (n := W.length) (c := W.length) (upd_self _ _ _) (Nat.le_refl _) (by simp)
  simpa using this
end Go.D
