/-
  A loop over a function: a tree is measured (2).
-/
import Derived.Test.YtbecblfbikahkaaGreatDoorDi
import Derived.LoopNIn
set_option linter.all false
set_option linter.deprecated false
namespace Go.D
open Go
namespace Ms

section
variable {P : Program}

def loopBody (C1 R2 R3 R5 L2 : Code) (id4 : Nat) (ops : List Oper) : Code :=
  .seq C1 (.block 1 (.seq R2 (.seq R3 (.seq (.seq (.region id4 ⟨ops⟩ false) (.cond (.tmp 29) .ret .skip)) (.seq R5 L2)))))

def WalkQ (P : Program) (ρ0 : Mp) (s0 : St) (w0 : World) (l k : Nat) (rc : LoopState → Option Code → Loop) (z y q : Nat) (v : DV) (r : Nat × Nat × Nat) (ρm : Mp) (N0 : Nat) (ex : Exit) (a' : Act) (w' : World) : Prop :=
  (ex = .exit 0 ∨ ex = .ret) ∧ a'.defers = [] ∧ ∃ ρ' s', Fin P ρ0 s0 w0 l k rc z y q v r ρ' s' w' ∧ ρm.le ρ' ∧ ∀ b, b < N0 → getB s' b = getB s0 b

theorem int_of {ρ : Mp} {k : IntKind} {n : Int} {x : Value} (h : VR ρ (.int k n) x) : x = .int k n := by cases h; rfl
theorem bool_of {ρ : Mp} {b : Bool} {x : Value} (h : VR ρ (.bool b) x) : x = .bool b := by cases h; rfl
theorem nil_of {ρ : Mp} {a : Array Value} (h : VRs ρ [] a.toList) : a = #[] := by
  have := h.length
  simp only [List.length_nil, Array.length_toList] at this
  exact Array.eq_empty_of_size_eq_zero this.symm
theorem yield_of {ρ : Mp} {l : Nat} {x : Value} (h : VR ρ (.func (.yield l) [] []) x) : x = .func (.yield l) #[] #[] := by
  cases h with
  | func fn ha hc => rw [nil_of ha, nil_of hc]

theorem Stk.keep {el : Nat} {s s' : St} {v : DV} {st : List (Nat × Nat × Nat)} {N : Nat} (h : Stk el s v st N) (hn : s.next ≤ s'.next) (hg : ∀ b, N ≤ b → b < s.next → getB s' b = getB s b) : Stk el s' v st N := by
  obtain ⟨bk, rest, h1, h2, h3, h4⟩ := h
  exact ⟨bk, rest, h1, by rw [hg bk h3 h4, h2], h3, by omega⟩
theorem At.keep {el : Nat} {s s' : St} {v : DV} {x : Nat × Nat × Nat} {N : Nat} (h : At el s v x N) (hn : s.next ≤ s'.next) (hg : ∀ b, N ≤ b → b < s.next → getB s' b = getB s b) : At el s' v x N := by
  obtain ⟨bk, h1, h2, h3, h4⟩ := h
  exact ⟨bk, h1, by rw [hg bk h3 h4, h2], h3, by omega⟩

theorem then_of {ex : Exit} {next : Act → World → Prop} {Q : Exit → Act → World → Prop} {a : Act} {w : World} (h : Q ex a w) (hn : ex ≠ .normal) : Exit.then next Q ex a w := by
  cases ex <;> first | exact h | exact absurd rfl hn

theorem walk_loop {D : DProg} (hE : ∀ n, ExecOk P D n) {el N0 N : Nat} {fn : Func} {R0 C1 R2 R3 R5 L2 : Code} {o1 o2 o3 o4 o5 oc on : Oper} {id4 : Nat} {ats : Array TypeId} (W : WalkFn P el N0 fn R0 C1 R2 R3 R5 L2 o1 o2 o3 o4 o5 oc on id4 ats)
    {A B : Code} {am : Act} {em : Env} {ρm : Mp} {z y q : Nat} (O : Outer P A B am em ρm z y q) {fnid : FuncId} {k l : Nat} {ρ0 : Mp} {s0 : St} {w0 : World} (hR0 : R P ρ0 s0 w0) (hv0 : ∀ b, N0 ≤ b → getB s0 b = none) {v : DV} {r : Nat × Nat × Nat} {nn : Nat} :
    ∀ (f : Nat) (st : List (Nat × Nat × Nat)) (kk size depth : Nat) (ρ : Mp) (s : St) (w : World) (e : Env) (a : Act), measureD s0 f st kk size depth = some r → kk = st.length → st.length ≤ 1073741824 →
      Head P el N0 N fn ρ0 s0 w0 l k (recOf fnid am.tmps A B k .ready none) ρm z y q v st size depth ρ s w e a →
      Code.roundsIn Fence.wide nn P (loopBody C1 R2 R3 R5 L2 id4 [o1, o2, o3, o4, o5, oc, on]) (WalkQ P ρ0 s0 w0 l k (recOf fnid am.tmps A B k) z y q v r ρm N0) (f + 1) a w := by
  intro f
  induction f with
  | zero =>
    intro st kk size depth ρ s w e a hm hk hlen H
    cases st with
    | cons x st => simp [measureD] at hm
    | nil =>
      rw [roundsIn_succ]
      unfold loopBody
      refine wpIn_seq ?_
      have h3 : ∃ a', egt e 3 = .slice a' 0 := by obtain ⟨bk, _, h1, _⟩ := H.stk; exact ⟨_, h1⟩
      obtain ⟨a3, h3⟩ := h3
      obtain ⟨e', g1⟩ := run_c1f (D := D) (n := 0) (s := s) h3
      refine wpIn_mono (piece hE W.hC1 (codeIn_mono H.room W.inC1) H.way.went.rel H.env g1) ?_
      intro ex a1 w1 hp
      obtain ⟨ρ1, k1, k2, k3, k4⟩ := hp
      cases ex <;> first | exact k4.elim | skip
      have k4 : 0 = _ := k4
      subst k4
      refine ⟨.inl rfl, by rw [k3.defers, H.defers], ρ1, s, .inl ⟨size, depth, H.way.step hR0 k1, H.three, ?_⟩, Mp.le_trans H.le k1.le, H.old⟩
      simp only [measureD] at hm
      cases hb : Nat.ble 8001 depth <;> rw [hb] at hm <;> injection hm with hm <;> exact hm.symm
  | succ f ih =>
    intro st kk size depth ρ s w e a hm hk hlen H
    cases st with
    | nil =>
      rw [roundsIn_succ]
      unfold loopBody
      refine wpIn_seq ?_
      have h3 : ∃ a', egt e 3 = .slice a' 0 := by obtain ⟨bk, _, h1, _⟩ := H.stk; exact ⟨_, h1⟩
      obtain ⟨a3, h3⟩ := h3
      obtain ⟨e', g1⟩ := run_c1f (D := D) (n := 0) (s := s) h3
      refine wpIn_mono (piece hE W.hC1 (codeIn_mono H.room W.inC1) H.way.went.rel H.env g1) ?_
      intro ex a1 w1 hp
      obtain ⟨ρ1, k1, k2, k3, k4⟩ := hp
      cases ex <;> first | exact k4.elim | skip
      have k4 : 0 = _ := k4
      subst k4
      refine ⟨.inl rfl, by rw [k3.defers, H.defers], ρ1, s, .inl ⟨size, depth, H.way.step hR0 k1, H.three, ?_⟩, Mp.le_trans H.le k1.le, H.old⟩
      simp only [measureD] at hm
      cases hb : Nat.ble 8001 depth <;> rw [hb] at hm <;> injection hm with hm <;> exact hm.symm
    | cons x st =>
      obtain ⟨xd, xb, xo⟩ := x
      -- what the node shows
      simp only [measureD] at hm
      split at hm
      case h_2 => cases hm
      rename_i d1 d2 ka kn d4 d5 hnode
      obtain ⟨hnode1, hxb⟩ := loadN_of hv0 (fun b _ => rfl) hnode
      rw [roundsIn_succ]
      unfold loopBody
      refine wpIn_seq ?_
      -- c1
      have h3 : ∃ a', egt e 3 = .slice a' (st.length + 1) := by obtain ⟨bk, _, h1, _⟩ := H.stk; exact ⟨_, h1⟩
      obtain ⟨a3, h3⟩ := h3
      obtain ⟨e1, g1, g2, g3⟩ := run_c1t (D := D) (n := 0) (s := s) h3
      refine wpIn_mono (piece hE W.hC1 (codeIn_mono H.room W.inC1) H.way.went.rel H.env g1) ?_
      intro ex a1 w1 hp
      obtain ⟨ρ1, k1, k2, k3, k4⟩ := hp
      cases ex <;> first | exact k4.elim | skip
      have k2 : EnvR ρ1 e1 a1.tmps := k2
      have W1 := H.way.step hR0 k1
      refine wpIn_block (wpIn_seq ?_)
      -- r2
      have hl1 : st.length + 1 ≤ imax := by simp only [List.length_cons] at hlen; unfold imax; omega
      obtain ⟨e2, s2, b1, b2, b3, b4, b5, b6, b7⟩ := run_r2 (D := D) (n := 0) (e := e1) (s := s) (el := el) (N := N) (x := (xd, xb, xo)) (st := st) (by rw [g2]; exact H.stk) hl1
      have rm1 : fn.ntmps ≤ a1.tmps.size := by rw [k3.size]; exact H.room
      refine wpIn_mono (piece hE W.hR2 (codeIn_mono rm1 W.inR2) W1.went.rel k2 b1) ?_
      intro ex a2 w2 hp
      obtain ⟨ρ2, j1, j2, j3, j4⟩ := hp
      cases ex <;> first | exact j4.elim | skip
      have j2 : EnvR ρ2 e2 a2.tmps := j2
      have W2 := W1.step hR0 j1
      have kk2 := k3.trans j3
      refine wpIn_seq ?_
      have hNs : N ≤ s.next := by obtain ⟨bk, _, _, _, h3, h4⟩ := H.stk; omega
      have stk2 : Stk el s2 (egt e2 3) ((xd, xb, xo) :: st) N := by
        rw [b2, g2]
        exact H.stk.keep (by omega) (fun b _ hb => b7 b (by omega))
      have at2 : At el s2 (egt e2 4) (xd, xb, xo) N := ⟨s.next, b4, b6, hNs, by omega⟩
      have ne2 : ∀ bx bk nn', egt e2 4 = .ptr (some (bx, 0)) → egt e2 3 = .slice (some (bk, 0)) nn' → bx ≠ bk := by
        intro bx bk nn' q1 q2 q3
        obtain ⟨bk', _, h1, _, _, h4⟩ := H.stk
        rw [b4] at q1; rw [b2, g2, h1] at q2
        injection q1 with q1; injection q1 with q1; injection q1 with q1 _
        injection q2 with q2; injection q2 with q2; injection q2 with q2 _
        omega
      -- r3
      obtain ⟨e3, c1', c2', c3', c4', c5'⟩ := run_r3 (D := D) (n := 0) (e := e2) (s := s2) (el := el) (N := N) stk2 hl1
      have rm2 : fn.ntmps ≤ a2.tmps.size := by rw [kk2.size]; exact H.room
      refine wpIn_mono (piece hE W.hR3 (codeIn_mono rm2 W.inR3) W2.went.rel j2 c1') ?_
      intro ex a3 w3 hp
      obtain ⟨ρ3, i1, i2, i3, i4⟩ := hp
      cases ex <;> first | exact i4.elim | skip
      have i2 : EnvR ρ3 e3 a3.tmps := i2
      have W3 := W2.step hR0 i1
      have kk3 := kk2.trans i3
      refine wpIn_seq (wpIn_seq ?_)
      -- r4
      have at3 : At el s2 (egt e3 4) (xd, xb, xo) N := by rw [c4']; exact at2
      obtain ⟨e4, f1, f2, f3, f4, f5, f6, f7⟩ := run_r4 (call := fun _ _ _ => none) (e := e3) (s := s2) (el := el) at3
      have rm3 : fn.ntmps ≤ a3.tmps.size := by rw [kk3.size]; exact H.room
      refine wpIn_region_list ?_
      show wpListIn Fence.wide nn P ⟨[o1, o2, o3, o4, o5, oc, on]⟩ _ ([o1, o2, o3, o4, o5] ++ [oc, on]) a3 w3
      refine runOps_then (F := []) wide_fn [o1, o2, o3, o4, o5] r4 ρ3 s2 w3 e3 a3 W.hR4 rfl (fun o' ho' => ?_) W3.went.rel i2 f1 ?_
      · have := List.all_eq_true.1 W.inR4 o' ho'
        cases hd : o'.dst with
        | none => rfl
        | some t => rw [hd] at this; exact dstIn_mono rm3 this
      intro ρ4 a4 w4 t1 t2 t3
      have W4 := W3.step hR0 t1
      have kk4 := kk3.trans t3
      -- the call of yield
      refine wpListIn_plain W.ocg (fun K hK => ?_)
      have ey : a4.tmps.getD 23 undef = .func (.yield l) #[] #[] := by
        have := t2 23
        rw [f2, c3', b3, g3, H.e0] at this
        exact yield_of this
      have ed : a4.tmps.getD 25 undef = .int .i64 (.ofNat xd) := by
        have := t2 25
        rw [f3] at this
        exact int_of this
      have ep := t2 27
      rw [f4] at ep
      have hrun : (oc.semAt Fence.wide.round a4.eval).run P w4 = .ok (.round l fnid ((am.tmps.setIfInBounds 8 (.int .i64 (.ofNat xd))).setIfInBounds 9 (a4.tmps.getD 27 undef)) A B) w4 := by
        rw [Oper.semAt_eq _ _ _ (fun c h => by rw [W.ocop] at h; cases h)]
        have hy := run_yield (P := P) (args := #[.int .i64 (.ofNat xd), a4.tmps.getD 27 undef]) W4.hl rfl
        simp only [execOp, W.ocop, resolve, Act.eval, ey, Deferred.ofValue, Sem.run_bind, Sem.run_pure, Result.andThen_ok, invoke, List.map_toArray, List.map_cons, List.map_nil, ed]
        simpa [recOf] using hy
      refine ⟨fun f' _ => trivial, ?_⟩
      rw [hrun, Oper.uponIn_round]
      refine ⟨fun h => by simp [Fence.wide] at h, ?_⟩
      have old4 : ∀ b, b < N0 → getB s2 b = getB s0 b := fun b hb => by rw [b7 b (by have := H.nn; omega), H.old b hb]
      have three4 : Three s2 z y q (ni size) (ni depth) v := by
        have hz := H.hz
        exact ⟨H.three.hz.of (b7 z (by omega)), H.three.hy.of (b7 y (by omega)), H.three.hq.of (b7 q (by omega)), H.three.n1, H.three.n2, H.three.n3⟩
      refine RoundIn.mono (round_ok D O hR0 W4 (Mp.le_trans (Mp.le_trans (Mp.le_trans (Mp.le_trans H.le k1.le) j1.le) i1.le) t1.le) three4 ep H.small (d := xd)) ?_
      rintro er w5 ⟨ρ5, s5, p1, p2, p3, hcase⟩
      have old5 : ∀ b, b < N0 → getB s5 b = getB s0 b := fun b hb => by
        have := H.hz0
        rw [p3 b (by omega) (by omega) (by omega), old4 b hb]
      have hn5 : ∀ b, N ≤ b → b < s2.next → getB s5 b = getB s2 b := fun b hb _ => by
        have := H.hz
        exact p3 b (by omega) (by omega) (by omega)
      have k28 : (28 : Nat) + 1 ≤ a4.tmps.size := by rw [kk4.size]; have := W.room; have := H.room; omega
      have ocput : ∀ bb : Bool, a4.put oc.dst (.bool bb) = a4.put (some 28) (.bool bb) := fun bb => by rw [W.ocd]
      have hd28 : dstIn [] a4.tmps.size (some 28) = true := by simp [dstIn]; omega
      rcases hcase with ⟨hs1, rfl, W5, T5⟩ | ⟨hs1, rfl, W5, T5⟩
      · -- the walk goes on
        show K (a4.put oc.dst (.bool true)) w5
        rw [ocput]
        refine hK _ _ ?_
        have E5 := EnvR.put (F := []) (t2.mono p1) hd28 (VR.bool (ρ := ρ5) true)
        have K5 := Kept.put (F := []) hd28 (.bool true)
        obtain ⟨e6, u1, u2, u3⟩ : ∃ e6, runOps (fun _ _ _ => none) r4b (put e4 (some 28) (.bool true)) s5 = some (.norm, e6, s5) ∧ egt e6 29 = .bool false ∧ ∀ u, u < 28 → egt e6 u = egt e4 u := by
          refine ⟨eput (eput e4 28 (.bool true)) 29 (.bool false), ?_, by simp [egt_eput], fun u hu => by rw [egt_eput, if_neg (by omega), egt_eput, if_neg (by omega)]⟩
          simp only [r4b, runOps, doOp, askG, afterOp, opD, ev, put, egt_eput, ↓reduceIte, Nat.reduceEqDiff, unD, valO]
          rfl
        refine runOps_in (F := []) wide_fn [on] r4b ρ5 s5 w5 _ _ _ W.hon rfl (fun o' ho' => ?_) W5.went.rel E5 u1 ?_
        · rw [List.mem_singleton.1 ho']
          cases hd : on.dst with
          | none => rfl
          | some t => have := W.inon; rw [hd] at this; exact dstIn_mono (by rw [K5.size, kk4.size]; exact H.room) this
        intro ex a6 w6 hp
        obtain ⟨ρ6, v1, v2, v3, v4⟩ := hp
        cases ex <;> first | exact v4.elim | skip
        have v2 : EnvR ρ6 e6 a6.tmps := v2
        have W6 := W5.step hR0 v1
        have kk6 := (kk4.trans K5).trans v3
        have ev29 : a6.eval (.tmp 29) = .bool false := by
          have := v2 29
          rw [u2] at this
          exact bool_of this
        refine wpIn_cond_false ev29 (wpIn_skip ?_)
        -- r5
        refine wpIn_seq ?_
        have at6 : At el s5 (egt e6 4) (xd, xb, xo) N := by
          rw [u3 4 (by omega), f7, c4']
          exact at2.keep (by omega) hn5
        have stk6 : Stk el s5 (egt e6 3) st N := by
          rw [u3 3 (by omega), f6]
          exact c2'.keep (by omega) hn5
        have ne6 : ∀ bx bk nn', egt e6 4 = .ptr (some (bx, 0)) → egt e6 3 = .slice (some (bk, 0)) nn' → bx ≠ bk := by
          intro bx bk nn' q1 q2 q3
          rw [u3 4 (by omega), f7, c4'] at q1
          rw [u3 3 (by omega), f6] at q2
          exact ne2 bx bk _ q1 (c5' bk nn' q2) q3
        have hks : loadN s5 xb (xo + 2) 1 = some [.slice ka kn] := kids_of (loadN_of hv0 old5 hnode).1
        rw [bif_false (ble_no (by omega))] at hm
        have hb : Nat.ble (kk + kn) 1073741824 = true := by
          cases hb : Nat.ble (kk + kn) 1073741824 with
          | true => rfl
          | false => rw [bif_false hb] at hm; cases hm
        rw [bif_true hb] at hm
        have hkn : kk + kn ≤ 1073741824 := Nat.le_of_ble_eq_true hb
        have hkl : kk = st.length + 1 := by rw [hk]; rfl
        obtain ⟨e7, x1, x2, x3, x4, x5⟩ := run_r5 (D := D) (n := 0) (e := e6) (s := s5) (el := el) (N := N) at6 hks (by unfold imax; omega)
        have rm6 : fn.ntmps ≤ a6.tmps.size := by rw [kk6.size]; exact H.room
        refine wpIn_mono (piece hE W.hR5 (codeIn_mono rm6 W.inR5) W6.went.rel v2 x1) ?_
        intro ex a7 w7 hp
        obtain ⟨ρ7, y1, y2, y3, y4⟩ := hp
        cases ex <;> first | exact y4.elim | skip
        have y2 : EnvR ρ7 e7 a7.tmps := y2
        have W7 := W6.step hR0 y1
        have kk7 := kk6.trans y3
        have rm7 : fn.ntmps ≤ a7.tmps.size := by rw [kk7.size]; exact H.room
        -- the kids
        have hxd : xd ≤ size + 1 := H.deep (xd, xb, xo) (by simp)
        have hxN : xb < N := by have := H.nn; omega
        have hcb : ∃ cb p, (0 < kn → loadN s5 xb (xo + 2) 1 = some [.slice (some (cb, p)) kn]) ∧ measureD s0 f (kidsAt (xd + 1) cb kn p st) (st.length + kn) (size + 1) (Nat.max depth xd) = some r := by
          cases ka with
          | none =>
            cases kn with
            | zero =>
              refine ⟨0, 0, fun h => by omega, ?_⟩
              rw [hkl] at hm
              exact hm
            | succ kn => cases hm
          | some cp =>
            obtain ⟨cb, p⟩ := cp
            refine ⟨cb, p, fun _ => hks, ?_⟩
            rw [hkl] at hm
            exact hm
        obtain ⟨cb, p, hload, hm2⟩ := hcb
        obtain ⟨m8, e8, s8, z1, z2, z3, z4, z5⟩ := run_l2b (D := D) (el := el) (x := (xd, xb, xo)) (st := st) (N := N) (k := kn) (cb := cb) (p := p) (e := e7) (s := s5) (by unfold imax; have := H.small; omega) (by omega) hxN
          (by rw [x4]; exact stk6) (by rw [x5]; exact at6) x2 (by rw [x4, x5]; exact ne6) hload
        refine wpIn_mono (piece hE W.hL2 (codeIn_mono rm7 W.inL2) W7.went.rel y2 z1) ?_
        intro ex a8 w8 hp
        obtain ⟨ρ8, q1, q2, q3, q4⟩ := hp
        cases ex <;> first | exact q4.elim | skip
        have q2 : EnvR ρ8 e8 a8.tmps := q2
        have W8 := W7.step hR0 q1
        have kk8 := kk7.trans q3
        have hz := H.hz
        refine ih (kidsAt (xd + 1) cb kn p st) (st.length + kn) (size + 1) (Nat.max depth xd) ρ8 s8 w8 e8 a8 hm2 (by rw [kidsAt_length]; omega) (by rw [kidsAt_length]; omega) ?_
        exact {
          way := W8
          three := ⟨T5.hz.of (z4 z hz.1), T5.hy.of (z4 y hz.2.1), T5.hq.of (z4 q hz.2.2), T5.n1, T5.n2, T5.n3⟩
          le := Mp.le_trans (Mp.le_trans (Mp.le_trans (Mp.le_trans (Mp.le_trans (Mp.le_trans (Mp.le_trans (Mp.le_trans H.le k1.le) j1.le) i1.le) t1.le) p1) v1.le) y1.le) q1.le
          env := q2
          room := by rw [kk8.size]; exact H.room
          defers := by rw [kk8.defers, H.defers]
          e0 := by rw [z3, x3, u3 0 (by omega), f5, c3', b3, g3, H.e0]
          stk := z2
          old := fun b hb => by rw [z4 b (by have := H.nn; omega), old5 b hb]
          nn := H.nn
          hz := H.hz
          hz0 := H.hz0
          deep := fun x hx => by
            rcases kidsAt_mem hx with h | h
            · omega
            · have := H.deep x (by simp [h]); omega
          small := hs1 }
      · -- the walk is stopped
        show K (a4.put oc.dst (.bool false)) w5
        rw [ocput]
        refine hK _ _ ?_
        have E5 := EnvR.put (F := []) (t2.mono p1) hd28 (VR.bool (ρ := ρ5) false)
        have K5 := Kept.put (F := []) hd28 (.bool false)
        obtain ⟨e6, u1, u2⟩ : ∃ e6, runOps (fun _ _ _ => none) r4b (put e4 (some 28) (.bool false)) s5 = some (.norm, e6, s5) ∧ egt e6 29 = .bool true := by
          refine ⟨eput (eput e4 28 (.bool false)) 29 (.bool true), ?_, by simp [egt_eput]⟩
          simp only [r4b, runOps, doOp, askG, afterOp, opD, ev, put, egt_eput, ↓reduceIte, Nat.reduceEqDiff, unD, valO]
          rfl
        refine runOps_in (F := []) wide_fn [on] r4b ρ5 s5 w5 _ _ _ W.hon rfl (fun o' ho' => ?_) W5.went.rel E5 u1 ?_
        · rw [List.mem_singleton.1 ho']
          cases hd : on.dst with
          | none => rfl
          | some t => have := W.inon; rw [hd] at this; exact dstIn_mono (by rw [K5.size, kk4.size]; exact H.room) this
        intro ex a6 w6 hp
        obtain ⟨ρ6, v1, v2, v3, v4⟩ := hp
        cases ex <;> first | exact v4.elim | skip
        have v2 : EnvR ρ6 e6 a6.tmps := v2
        have W6 := W5.step hR0 v1
        have kk6 := (kk4.trans K5).trans v3
        have ev29 : a6.eval (.tmp 29) = .bool true := by
          have := v2 29
          rw [u2] at this
          exact bool_of this
        refine wpIn_cond_true ev29 (wpIn_ret ?_)
        have hr : r = (0, 0, 802) := by
          rw [bif_true (Nat.ble_eq_true_of_le hs1)] at hm
          injection hm with hm; exact hm.symm
        exact ⟨.inr rfl, by rw [kk6.defers, H.defers], ρ6, s5, .inr ⟨W6, T5, hr⟩, Mp.le_trans (Mp.le_trans (Mp.le_trans (Mp.le_trans (Mp.le_trans (Mp.le_trans H.le k1.le) j1.le) i1.le) t1.le) p1) v1.le, old5⟩
end
end Ms
end Go.D
namespace Go.D
open Go

mutual
theorem VR.back {ρ ρ' : Mp} (hm : ρ.le ρ') : ∀ {d : DV} {v0 v : Value}, VR ρ d v0 → VR ρ' d v → VR ρ d v
  | _, _, _, .bool _, h => by cases h; exact .bool _
  | _, _, _, .int _ _, h => by cases h; exact .int _ _
  | _, _, _, .ptrNil, h => by cases h; exact .ptrNil
  | _, _, _, .ptr h0, h => by
    cases h with
    | ptr h1 => rw [hm _ _ h0] at h1; injection h1 with h1; subst h1; exact .ptr h0
  | _, _, _, .sliceNil, h => by cases h; exact .sliceNil
  | _, _, _, .slice h0 _ _, h => by
    cases h with
    | slice h1 a b => rw [hm _ _ h0] at h1; injection h1 with h1; subst h1; exact .slice h0 a b
    | sliceEmpty h1 a => exact .sliceEmpty h0 a
  | _, _, _, .sliceEmpty h0 _, h => by
    cases h with
    | slice h1 a b => rw [hm _ _ h0] at h1; injection h1 with h1; subst h1; exact .slice h0 a b
    | sliceEmpty h1 a => exact .sliceEmpty h0 a
  | _, _, _, .mapNil, h => by cases h; exact .mapNil
  | _, _, _, .map h0, h => by
    cases h with
    | map h1 => rw [hm _ _ h0] at h1; injection h1 with h1; subst h1; exact .map h0
  | _, _, _, .func fn ha hc, h => by
    cases h with
    | func fn ha' hc' => exact .func fn (VRs.back hm ha ha') (VRs.back hm hc hc')
  | _, _, _, .nilFunc, h => by cases h; exact .nilFunc
  | _, _, _, .iface t h0, h => by
    cases h with
    | iface t h1 => exact .iface t (VR.back hm h0 h1)
  | _, _, _, .nilIface, h => by cases h; exact .nilIface
  | _, _, _, .agg h0, h => by
    cases h with
    | agg h1 => exact .agg (VRs.back hm h0 h1)
  | _, _, _, .tuple h0, h => by
    cases h with
    | tuple h1 => exact .tuple (VRs.back hm h0 h1)
  | _, _, v, .str s, h => by
    generalize hd : DV.str (s.data.toList.map UInt8.toNat) = d at h
    cases h with
    | str s' => exact .str s'
    | _ => cases hd
theorem VRs.back {ρ ρ' : Mp} (hm : ρ.le ρ') : ∀ {l : List DV} {l0 l' : List Value}, VRs ρ l l0 → VRs ρ' l l' → VRs ρ l l'
  | _, _, _, .nil, h => by cases h; exact .nil
  | _, _, _, .cons h0 t0, h => by
    cases h with
    | cons h1 t1 => exact .cons (VR.back hm h0 h1) (VRs.back hm t0 t1)
end
theorem ERs.back {ρ ρ' : Mp} (hm : ρ.le ρ') : ∀ {l : List (DV × DV)} {l0 l' : List MapEntry}, ERs ρ l l0 → ERs ρ' l l' → ERs ρ l l'
  | _, _, _, .nil, h => by cases h; exact .nil
  | _, _, _, .cons hk hv t, h => by
    cases h with
    | cons hk' hv' t' => exact .cons (hk.back hm hk') (hv.back hm hv') (ERs.back hm t t')

/-- what D made beside is forgotten -/
theorem Went.forget {P : Program} {ρ ρ' : Mp} {s s' : St} {w w' : World} (hR : R P ρ s w) (h : Went P ρ s w ρ' s' w') (old : ∀ b, b < s.next → getB s' b = getB s b) : Went P ρ s w ρ s w' where
  le := Mp.le_refl _
  rel := {
    fresh := hR.fresh
    void := hR.void
    there := fun b x e => Nat.lt_of_lt_of_le (hR.there b x e) h.fr.size
    apart := hR.apart
    obj := fun b x o e1 e2 => by
      have h1 := h.rel.obj b x o (h.le b x e1) (by rw [old b (hR.fresh b x e1)]; exact e2)
      have h0 := hR.obj b x o e1 e2
      cases o with
      | cells cs e n =>
        obtain ⟨rc, lo, hi, k1, k2, k3, k4, k5, k6⟩ := h1
        obtain ⟨_, _, _, _, _, _, _, _, j6⟩ := h0
        exact ⟨rc, lo, hi, k1, k2, k3, k4, k5, VRs.back h.le j6 k6⟩
      | map es =>
        obtain ⟨en, cl, k1, k2⟩ := h1
        obtain ⟨_, _, _, j2⟩ := h0
        exact ⟨en, cl, k1, ERs.back h.le j2 k2⟩
      | iter l p => exact h1
      | dead => trivial
    glob := hR.glob
    lone := hR.lone
    fix := fun g cs e n hg h1 => by
      obtain ⟨_, _, _, h4, _⟩ := hR.globAt hg
      exact h.rel.fix g cs e n hg (by rw [old g h4]; exact h1) }
  fr := h.fr
  frD := ⟨Nat.le_refl _, fun _ _ _ => rfl⟩
  lives := fun _ _ h => h
  newAt := fun b x e e' => by rw [e] at e'; cases e'

namespace Ms
theorem Went.putObj {P : Program} {ρ0 ρ : Mp} {s0 s : St} {w0 w : World} (h : Went P ρ0 s0 w0 ρ s w) {k : Nat} (hn : NotIn ρ s k) (ok : w0.heap.size ≤ k) (ob : Obj) : Went P ρ0 s0 w0 ρ s (w.putObj k ob) where
  le := h.le
  rel := R.putObj h.rel hn _
  fr := ⟨h.fr.os, h.fr.tape, h.fr.output, by rw [World.putObj_size]; exact h.fr.size, fun i hi hn => by
    rw [World.putObj_heap_other (by omega)]; exact h.fr.block i hi hn⟩
  frD := h.frD
  lives := h.lives
  newAt := h.newAt

section
variable {D : DProg}
theorem run_ra {ti tc : Nat} {e : Env} {s : St} : ∃ e' s', exec D 1 (ra ti tc) e s = some (.norm, e', s') ∧ s'.next = s.next + 3 ∧ One s' s.next (ni 0) ∧ One s' (s.next + 1) (ni 0) ∧ One s' (s.next + 2) (ni 0) ∧ (∀ b, b < s.next → getB s' b = getB s b) ∧
    egt e' 2 = .ptr (some (s.next, 0)) ∧ egt e' 3 = .ptr (some (s.next + 1, 0)) ∧ egt e' 4 = .ptr (some (s.next + 2, 0)) ∧ egt e' 0 = egt e 0 := by
  refine ⟨eput (eput (eput e 2 (.ptr (some (s.next, 0)))) 3 (.ptr (some (s.next + 1, 0)))) 4 (.ptr (some (s.next + 2, 0))), alloc (alloc (alloc s (.cells [ni 0] ti 1)) (.cells [ni 0] ti 1)) (.cells [ni 0] tc 1), rfl, rfl, ⟨ti, ?_⟩, ⟨ti, ?_⟩, ⟨tc, ?_⟩, fun b hb => ?_, by simp [egt_eput], by simp [egt_eput], by simp [egt_eput], by simp [egt_eput]⟩
  · rw [getB_alloc, if_neg (by simp; omega), getB_alloc, if_neg (by simp), getB_alloc, if_pos rfl]
  · rw [getB_alloc, if_neg (by simp), getB_alloc, if_pos (by simp)]
  · rw [getB_alloc, if_pos (by simp)]
  · rw [getB_alloc, if_neg (by simp; omega), getB_alloc, if_neg (by simp; omega), getB_alloc, if_neg (by omega)]

theorem run_dw {tp fi : Nat} {x : DV} {s : St} (hx : isAtom x = true) : callF (⟨fun _ => some (dw tp fi), fun _ _ _ => none⟩) (exec D 5) 0 [x] s = some (.ret (.func (.func fi) [] [.ptr (some (s.next, 0))]), alloc s (.cells [x] tp 1)) := by
  have hc : x.cells = [x] := by cases x <;> first | rfl | cases hx
  have h0 : egt (envOf [x] 0 .leaf) 0 = x := by rw [egt_envOf]; rfl
  simp only [callF, dw, exec, runOps, doOp, askG, afterOp, opD, opAlloc, ev, evs, put, thenD, h0, hc, egt_eput, ↓reduceIte, Nat.reduceEqDiff, finish, giveD, resultsD, resultD, oneOf]
theorem run_rb {fw tp fi : Nat} {x : DV} {e : Env} {s : St} (hf : D.funcs fw = some (dw tp fi)) (h0 : egt e 0 = x) (hx : isAtom x = true) :
    ∃ e', exec D 6 (rb fw) e s = some (.norm, e', alloc s (.cells [x] tp 1)) ∧ egt e' 7 = .func (.func fi) [] [.ptr (some (s.next, 0))] ∧ ∀ u, u < 6 → egt e' u = egt e u := by
  refine ⟨eput (eput e 6 x) 7 (.func (.func fi) [] [.ptr (some (s.next, 0))]), ?_, by simp [egt_eput], fun u hu => by rw [egt_eput, if_neg (by omega), egt_eput, if_neg (by omega)]⟩
  have hc : callF D (exec D 5) fw [x] s = some (.ret (.func (.func fi) [] [.ptr (some (s.next, 0))]), alloc s (.cells [x] tp 1)) := by
    have := run_dw (D := D) (tp := tp) (fi := fi) (s := s) hx
    simp only [callF] at this ⊢
    rw [hf]
    exact this
  have e1 : exec D 6 (rb fw) e s = runOps (callF D (exec D 5)) [o 6 (.move (t 0)), o 7 (.call fw [(t 6)])] e s := rfl
  rw [e1]
  generalize callF D (exec D 5) = call at hc ⊢
  simp only [runOps, doOp, askG, afterOp, afterCall, opD, ev, evs, put, h0, egt_eput, ↓reduceIte, hc]
end
end Ms
end Go.D
namespace Go.D
open Go
namespace Ms

section
variable {P : Program} {D : DProg}

/-- measure, as it is compiled -/
structure MeasureFn (P : Program) (D : DProg) (fw fi ti tc tp : Nat) (fn : Func) (RA RB A B C : Code) : Prop where
  name : (fn.name == "runtime.NumGoroutine") = false
  body : fn.body = some (.seq RA (.seq (.seq RB (.block 0 (.rangeFunc (.tmp 7) #[8, 9] A B))) C))
  hRA : codeC P RA = some (ra ti tc)
  hRB : codeC P RB = some (rb fw)
  hA : codeC P A = some ma
  hB : codeC P B = some mb
  sA : simpleC A = true
  sB : simpleC B = true
  hC : codeC P C = some mr
  inA : codeIn [] fn.ntmps A = true
  inB : codeIn [] fn.ntmps B = true
  inRA : codeIn [] fn.ntmps RA = true
  inRB : codeIn [] fn.ntmps RB = true
  inC : codeIn [] fn.ntmps C = true
  room : 10 ≤ fn.ntmps
  res : resC P fn.results.toList = some [.cell 2 false 1, .cell 3 false 1, .cell 4 false 1]
  fw : D.funcs fw = some (dw tp fi)

theorem One.loadV {s : St} {b : Nat} {v : DV} (h : One s b v) : loadV s false 1 b 0 = some v := by
  obtain ⟨ty, h⟩ := h
  simp only [D.loadV, loadN, h]; rfl

theorem give3 {s : St} {e : Env} {z y q : Nat} {a b c : DV} (h : Three s z y q a b c) (e2 : egt e 2 = .ptr (some (z, 0))) (e3 : egt e 3 = .ptr (some (y, 0))) (e4 : egt e 4 = .ptr (some (q, 0))) :
    giveD e s [.cell 2 false 1, .cell 3 false 1, .cell 4 false 1] = some (.ret (.tuple [a, b, c]), s) := by
  simp only [giveD, resultsD, resultD, e2, e3, e4, h.hz.loadV, h.hy.loadV, h.hq.loadV, oneOf]

/-- how measure's frame stands behind the loop -/
structure Behind (am : Act) (k : Nat) (a : Act) : Prop where
  size : a.tmps.size = am.tmps.size
  defers : a.defers = [{ target := .collected k, args := #[] }]

theorem roundsIn_mono {F : Fence} {n : Nat} {c : Code} {Q Q' : Exit → Act → World → Prop} (hq : ∀ e a w, Q e a w → Q' e a w) : ∀ (m : Nat) (a : Act) (w : World), Code.roundsIn F n P c Q m a w → Code.roundsIn F n P c Q' m a w
  | 0, _, _, h => h
  | m + 1, a, w, h => by
    rw [roundsIn_succ] at h ⊢
    exact wpIn_mono h (fun e a w he => by
      cases e with
      | normal => exact roundsIn_mono hq m a w he
      | _ => exact hq _ _ _ he)

theorem knownD_measure {dargs : List DV} {s : St} {r : Out × St} (h : knownD .measure dargs s = some r) : ∃ b o, dargs = [.ptr (some (b, o))] ∧ (match measureD s 5000000 [(1, b, o)] 1 0 0 with
    | some (x, y, z) => some (Out.ret (.tuple [.int .i64 (.ofNat x), .int .i64 (.ofNat y), .int .i64 (.ofNat z)]), s)
    | none => none) = some r := by
  match dargs, h with
  | [.ptr (some (b, o))], h => exact ⟨b, o, rfl, h⟩

theorem measure_known {fm fw fi ti tc tp el : Nat} {fn fnw : Func} {RA RB A B C R0 C1 R2 R3 R5 L2 : Code} {o1 o2 o3 o4 o5 oc on : Oper} {id4 : Nat} {ats : Array TypeId} (hE : ∀ n, ExecOk P D n)
    (hf : P.funcs[fm]? = some fn) (M : MeasureFn P D fw fi ti tc tp fn RA RB A B C) (hfi : P.funcs[fi]? = some fnw) (hwn : (fnw.name == "runtime.NumGoroutine") = false)
    (hwb : fnw.body = some (.seq R0 (.block 0 (.loop (loopBody C1 R2 R3 R5 L2 id4 [o1, o2, o3, o4, o5, oc, on]))))) (hwr : fnw.results = #[])
    (W : ∀ N0, WalkFn P el N0 fnw R0 C1 R2 R3 R5 L2 o1 o2 o3 o4 o5 oc on id4 ats) : KnownOk P fm (knownD .measure) := by
  intro dargs ρ s w args out s' h hR hV
  obtain ⟨b, o, hd, hx⟩ := knownD_measure h
  clear h
  subst hd
  have h := hx
  clear hx
  generalize (5000000 : Nat) = f at h
  cases hme : measureD s f [(1, b, o)] 1 0 0 with
  | none => rw [hme] at h; cases h
  | some r =>
  obtain ⟨x, y, z⟩ := r
  rw [hme] at h
  injection h with h; injection h with h1 h2; subst h1; subst h2
  refine .inl ⟨run_enter hf M.name (by rw [M.body]; rfl) args, (callsIn_wide (n := 5)).1 (callsIn_of_wp_marks hf M.body trivial ?_ rfl)⟩
  have hsz : fn.ntmps ≤ (args ++ Array.replicate (fn.ntmps - args.size) undef).size := by simp; omega
  have hE0 := envOf_sound (ρ := ρ) hV (fn.ntmps - args.size)
  have h00 : egt (envOf [DV.ptr (some (b, o))] 0 .leaf) 0 = .ptr (some (b, o)) := by rw [egt_envOf]; rfl
  generalize ha0 : ({ tmps := args ++ Array.replicate (fn.ntmps - args.size) undef, defers := [] } : Act) = a0
  have ha0t : a0.tmps = args ++ Array.replicate (fn.ntmps - args.size) undef := by rw [← ha0]
  have ha0d : a0.defers = [] := by rw [← ha0]
  rw [← ha0t] at hE0 hsz
  -- ra, rb
  refine wpIn_seq ?_
  obtain ⟨e1, s1, g1, gn, g2, g3, g4, g5, g6, g7, g8, g9⟩ := run_ra (D := D) (ti := ti) (tc := tc) (e := envOf [DV.ptr (some (b, o))] 0 .leaf) (s := s)
  refine wpIn_mono (piece hE M.hRA (codeIn_mono hsz M.inRA) hR hE0 g1) ?_
  intro ex a1 w1 hp
  obtain ⟨ρ1, k1, k2, k3, k4⟩ := hp
  cases ex <;> first | exact k4.elim | skip
  have k2 : EnvR ρ1 e1 a1.tmps := k2
  refine wpIn_seq (wpIn_seq ?_)
  have rm1 : fn.ntmps ≤ a1.tmps.size := by rw [k3.size]; exact hsz
  obtain ⟨e2, i1, i2, i3⟩ := run_rb (D := D) (fw := fw) (tp := tp) (fi := fi) (s := s1) (e := e1) M.fw (by rw [g9, h00]) rfl
  refine wpIn_mono (piece hE M.hRB (codeIn_mono rm1 M.inRB) k1.rel k2 i1) ?_
  intro ex a2 w2 hp
  obtain ⟨ρ2, j1, j2, j3, j4⟩ := hp
  cases ex <;> first | exact j4.elim | skip
  have j2 : EnvR ρ2 e2 a2.tmps := j2
  have kk2 := k3.trans j3
  have went2 := Went.trans hR k1 j1
  have rm2 : fn.ntmps ≤ a2.tmps.size := by rw [kk2.size]; exact hsz
  refine wpIn_block (wpIn_rangeFunc ?_)
  intro fnid _
  -- the closure
  have hcl := j2 7
  rw [i2] at hcl
  obtain ⟨cap, hcv, hcap⟩ : ∃ cap : Array Value, a2.tmps.getD 7 undef = .func (.func fi) #[] cap ∧ VRs ρ2 [.ptr (some (s1.next, 0))] cap.toList := by
    generalize a2.tmps.getD 7 undef = vv at hcl
    cases hcl with
    | func fn' ha hc => exact ⟨_, by rw [nil_of ha], hc⟩
  obtain ⟨rc, hrc⟩ : ∃ rc : LoopState → Option Code → Loop, rc = recOf fnid a2.tmps A B w2.heap.size := ⟨_, rfl⟩
  have hen := run_enterLoop_outer (P := P) (w := w2) fnid a2.tmps #[8, 9] A B
  generalize hW : (w2.alloc (.deferred (some []))).alloc (.loop (rc .ready none)) = W3
  have hW' : (w2.alloc (.deferred (some []))).alloc (.loop { state := .ready, pending := none, fn := fnid, tmps := a2.tmps, params := #[8, 9], assign := A, body := B, defers := w2.heap.size }) = W3 := by rw [← hW, hrc]; rfl
  rw [hW'] at hen
  have n1 := Went.newObj went2.rel (.deferred (some []))
  have n2 := Went.newObj n1.rel (.loop (rc .ready none))
  rw [hW] at n2
  have went3 := Went.trans hR (Went.trans hR went2 n1) n2
  have hk3 : W3.heap[w2.heap.size]? = some (.deferred (some [])) := by
    rw [← hW]
    show ((w2.heap.push _).push _)[w2.heap.size]? = _
    rw [Array.getElem?_push, if_neg (by simp), Array.getElem?_push, if_pos rfl]
  have hl3 : W3.heap[w2.heap.size + 1]? = some (.loop (rc .ready none)) := by rw [← hW]; have := World.alloc_heap_new (w2.alloc (.deferred (some []))) (.loop (rc .ready none)); rwa [World.size_alloc] at this
  have nin : ∀ k, w2.heap.size ≤ k → NotIn ρ2 (alloc s1 (.cells [DV.ptr (some (b, o))] tp 1)) k := fun k hk b' x' e1' e2' _ => by have := went2.rel.there b' x' e1'; omega
  have way3 : Way P ρ s w (w2.heap.size + 1) w2.heap.size (rc .ready none) ρ2 (alloc s1 (.cells [DV.ptr (some (b, o))] tp 1)) W3 :=
    ⟨went3, nin _ (by omega), nin _ (Nat.le_refl _), hl3, hk3, by have := went2.fr.size; omega, went2.fr.size, by omega⟩
  refine ⟨w2.heap.size + 1, [{ target := .collected w2.heap.size, args := #[] }], W3, { target := .fn (.func fi) cap, args := #[.func (.yield (w2.heap.size + 1)) #[] #[]] }, W3, fi, #[.func (.yield (w2.heap.size + 1)) #[] #[]] ++ cap, W3, hen, ?_, fun _ _ => trivial, ?_, fun h => by simp [Fence.wide] at h, ?_⟩
  · simp only [resolve, Act.eval, hcv, Deferred.ofValue, Sem.run_pure, rangeCall]
    simp
    rfl
  · exact run_enter hfi hwn (by rw [hwb]; rfl) _
  -- the walk
  refine callsIn_of_wp hfi hwb trivial ?_ rfl
  have hVw : VRs ρ2 [.func (.yield (w2.heap.size + 1)) [] [], .ptr (some (s1.next, 0))] (#[Value.func (.yield (w2.heap.size + 1)) #[] #[]] ++ cap).toList := by
    simp only [Array.toList_append]
    exact .cons (.func _ .nil .nil) hcap
  have hEw := envOf_sound (ρ := ρ2) hVw (fnw.ntmps - (#[Value.func (.yield (w2.heap.size + 1)) #[] #[]] ++ cap).size)
  have hszw : fnw.ntmps ≤ ((#[Value.func (.yield (w2.heap.size + 1)) #[] #[]] ++ cap) ++ Array.replicate (fnw.ntmps - (#[Value.func (.yield (w2.heap.size + 1)) #[] #[]] ++ cap).size) undef).size := by simp; omega
  have hew0 : egt (envOf [DV.func (.yield (w2.heap.size + 1)) [] [], .ptr (some (s1.next, 0))] 0 .leaf) 0 = .func (.yield (w2.heap.size + 1)) [] [] := by rw [egt_envOf]; rfl
  have hew1 : egt (envOf [DV.func (.yield (w2.heap.size + 1)) [] [], .ptr (some (s1.next, 0))] 0 .leaf) 1 = .ptr (some (s1.next, 0)) := by rw [egt_envOf]; rfl
  generalize hb0 : ({ tmps := (#[Value.func (.yield (w2.heap.size + 1)) #[] #[]] ++ cap) ++ Array.replicate (fnw.ntmps - (#[Value.func (.yield (w2.heap.size + 1)) #[] #[]] ++ cap).size) undef, defers := [] } : Act) = b0
  have hb0t : b0.tmps = (#[Value.func (.yield (w2.heap.size + 1)) #[] #[]] ++ cap) ++ Array.replicate (fnw.ntmps - (#[Value.func (.yield (w2.heap.size + 1)) #[] #[]] ++ cap).size) undef := by rw [← hb0]
  have hb0d : b0.defers = [] := by rw [← hb0]
  rw [← hb0t] at hEw hszw
  have WN := W s.next
  refine wpIn_seq ?_
  have s2n : (alloc s1 (.cells [DV.ptr (some (b, o))] tp 1)).next = s.next + 4 := by rw [next_alloc, gn]
  have hbox : loadN (alloc s1 (.cells [DV.ptr (some (b, o))] tp 1)) s1.next 0 1 = some [.ptr (some (b, o))] := by simp only [loadN, getB_alloc, if_pos]; rfl
  obtain ⟨e3, p1, p2, p3⟩ := run_r0 (D := D) (n := 0) (el := el) (e := envOf [DV.func (.yield (w2.heap.size + 1)) [] [], .ptr (some (s1.next, 0))] 0 .leaf) (s := alloc s1 (.cells [DV.ptr (some (b, o))] tp 1)) hew1 hbox
  refine wpIn_mono (piece hE WN.hR0 (codeIn_mono hszw WN.inR0) way3.went.rel hEw p1) ?_
  intro ex a3 w3 hp
  obtain ⟨ρ3, q1, q2, q3, q4⟩ := hp
  cases ex <;> first | exact q4.elim | skip
  have q2 : EnvR ρ3 e3 a3.tmps := q2
  have way4 := way3.step hR q1
  have geto : ∀ u, u < s.next + 3 → getB (alloc (alloc s1 (.cells [DV.ptr (some (b, o))] tp 1)) (.cells [ni 1, .ptr (some (b, o))] el 2)) u = getB s1 u := fun u hu => by
    rw [getB_alloc, if_neg (by rw [s2n]; omega), getB_alloc, if_neg (by omega)]
  have O : Outer P A B a2 e2 ρ2 s.next (s.next + 1) (s.next + 2) := ⟨M.hA, M.hB, M.sA, M.sB, codeIn_mono rm2 M.inA, codeIn_mono rm2 M.inB, j2, by have := M.room; omega, by rw [i3 2 (by omega)]; exact g6, by rw [i3 3 (by omega)]; exact g7, by rw [i3 4 (by omega)]; exact g8⟩
  refine wpIn_block (wpIn_loop_rounds (f + 1) ?_)
  have hloop := walk_loop hE WN O (fnid := fnid) (k := w2.heap.size) (l := w2.heap.size + 1) hR (N0 := s.next) (N := s.next + 4) hR.void (v := ni 0) (r := (x, y, z)) (nn := 5 - 1) f [(1, b, o)] 1 0 0 ρ3 _ w3 e3 a3 hme rfl (by simp)
    { way := by rw [← hrc]; exact way4
      three := ⟨g2.of (geto _ (by omega)), g3.of (geto _ (by omega)), g4.of (geto _ (by omega)), by omega, by omega, by omega⟩
      le := q1.le
      env := q2
      room := by rw [q3.size]; exact hszw
      defers := by rw [q3.defers, hb0d]
      e0 := by rw [p3, hew0]
      stk := ⟨s.next + 4, [], by rw [p2, s2n]; rfl, by rw [getB_alloc, if_pos s2n.symm]; rfl, Nat.le_refl _, by rw [next_alloc, s2n]; omega⟩
      old := fun u hu => by rw [geto u (by omega), g5 u hu]
      nn := by omega
      hz := by omega
      hz0 := by omega
      deep := fun x' hx' => by simp at hx'; subst hx'; simp
      small := by omega }
  -- behind the walk
  have fin : ∀ (a' : Act) (w' : World), a'.defers = [] → (∃ ρ' s', Fin P ρ s w (w2.heap.size + 1) w2.heap.size (recOf fnid a2.tmps A B w2.heap.size) s.next (s.next + 1) (s.next + 2) (ni 0) (x, y, z) ρ' s' w' ∧ ρ2.le ρ' ∧ ∀ u, u < s.next → getB s' u = getB s u) →
      bodyPost P fnw (rangePost Fence.wide 5 P (w2.heap.size + 1) (Exit.inBlock 0 (Exit.then (C.wpIn Fence.wide 5 P (bodyPostM Fence.wide 5 P fn (EndR P ρ s w (.ret (.tuple [ni x, ni y, ni z])) s))) (bodyPostM Fence.wide 5 P fn (EndR P ρ s w (.ret (.tuple [ni x, ni y, ni z])) s)))) { a2 with defers := [{ target := .collected w2.heap.size, args := #[] }] ++ a2.defers }) .normal a' w' := by
    rintro a' w' hd ⟨ρ', s', hfin, hle, hold⟩
    refine ⟨hd, .tuple #[], results_none hwr _, ?_⟩
    have hd2 : a2.defers = [] := by rw [kk2.defers, ha0d]
    -- the end of measure
    have leave : ∀ (a9 : Act) (e9 : Env) (ρ9 : Mp) (s9 : St) (w9 : World) (lp : Loop), a9.defers = [{ target := .collected w2.heap.size, args := #[] }] → Way P ρ s w (w2.heap.size + 1) w2.heap.size lp ρ9 s9 w9 → EnvR ρ9 e9 a9.tmps → Three s9 s.next (s.next + 1) (s.next + 2) (ni x) (ni y) (ni z) →
        egt e9 2 = .ptr (some (s.next, 0)) → egt e9 3 = .ptr (some (s.next + 1, 0)) → egt e9 4 = .ptr (some (s.next + 2, 0)) → (∀ u, u < s.next → getB s9 u = getB s u) → bodyPostM Fence.wide 5 P fn (EndR P ρ s w (.ret (.tuple [ni x, ni y, ni z])) s) .ret a9 w9 := by
      intro a9 e9 ρ9 s9 w9 lp hd9 way9 env9 three9 h2 h3 h4 old9
      show LeavesInM Fence.wide 5 P fn a9.tmps _ a9.defers .returning w9
      rw [hd9]
      refine ⟨by simp, .inl ⟨w2.heap.size, _, rfl, run_takeDeferred way9.hk, ?_⟩⟩
      have wentF := Went.putObj way9.went way9.nk way9.ok (.deferred none)
      obtain ⟨dv, vv, r1, r2, r3, r4⟩ := give_sound wentF.rel env9 M.res (give3 three9 h2 h3 h4)
      refine ⟨vv, r3, dv, ρ, r1, ?_, Went.forget hR wentF old9⟩
      injection r1 with r1
      subst r1
      cases r4 with
      | tuple hl =>
        refine .tuple ?_
        generalize Array.toList _ = ll at hl
        cases hl with
        | cons a1' t1 => cases t1 with
          | cons a2' t2 => cases t2 with
            | cons a3' t3 => cases t3 with
              | nil => cases a1'; cases a2'; cases a3'; exact .cons (.int _ _) (.cons (.int _ _) (.cons (.int _ _) .nil))
    have f2 : egt e2 2 = .ptr (some (s.next, 0)) := O.e2
    have f3 : egt e2 3 = .ptr (some (s.next + 1, 0)) := O.e3
    have f4 : egt e2 4 = .ptr (some (s.next + 2, 0)) := O.e4
    rcases hfin with ⟨size, depth, wayF, threeF, hr⟩ | ⟨wayF, threeF, hr⟩
    · refine ⟨none, _, run_endLoop wayF.hl (by simp [recOf]), ?_⟩
      have wayG := wayF.put { recOf fnid a2.tmps A B w2.heap.size .ready none with state := .exhausted }
      show C.wpIn Fence.wide 5 P _ _ _
      obtain ⟨m, e', s9, v1, v2, v3, v4, v5⟩ := run_mr (D := D) f2 f3 f4 threeF
      refine wpIn_mono (piece hE M.hC (a := { a2 with defers := [{ target := .collected w2.heap.size, args := #[] }] ++ a2.defers }) (codeIn_mono rm2 M.inC) wayG.went.rel (j2.mono hle) v1) ?_
      intro ex a9 w9 hp
      obtain ⟨ρ9, u1, u2, u3, u4⟩ := hp
      cases ex <;> first | exact u4.elim | skip
      have u2 : EnvR ρ9 e' a9.tmps := u2
      have wayH := wayG.step hR u1
      have three9 : Three s9 s.next (s.next + 1) (s.next + 2) (ni x) (ni y) (ni z) := by
        cases hb : Nat.ble 8001 depth with
        | true =>
          rw [bif_true hb] at v2 hr
          injection hr with r1 r2; injection r2 with r2 r3
          rw [r1, r2, r3]; exact v2
        | false =>
          rw [bif_false hb] at v2 hr
          injection hr with r1 r2; injection r2 with r2 r3
          rw [r1, r2, r3]; exact v2
      exact leave a9 e' ρ9 s9 w9 _ (by rw [u3.defers, hd2]; rfl) wayH u2 three9 (by rw [v5 2 (by omega)]; exact f2) (by rw [v5 3 (by omega)]; exact f3) (by rw [v5 4 (by omega)]; exact f4)
        (fun u hu => by rw [v4 u (by omega) (by omega) (by omega), hold u hu])
    · refine ⟨some .ret, _, run_endLoop wayF.hl (by simp [recOf]), ?_⟩
      have wayG := wayF.put { recOf fnid a2.tmps A B w2.heap.size .done (some .ret) with state := .exhausted }
      refine wpIn_ret ?_
      injection hr with r1 r2; injection r2 with r2 r3
      refine leave { a2 with defers := [{ target := .collected w2.heap.size, args := #[] }] ++ a2.defers } e2 ρ' s' _ _ (by show _ ++ a2.defers = _; rw [hd2]; rfl) wayG (j2.mono hle) (by rw [r1, r2, r3]; exact threeF) f2 f3 f4 hold
  refine roundsIn_mono ?_ _ _ _ hloop
  rintro ex a' w' ⟨hex, hd, hfin⟩
  rcases hex with rfl | rfl
  · exact fin a' w' hd hfin
  · exact fin a' w' hd hfin
end
end Ms
end Go.D
