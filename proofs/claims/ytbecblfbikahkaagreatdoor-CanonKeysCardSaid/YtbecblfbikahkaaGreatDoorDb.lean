/-
  Its operations are sound (1).
-/
import Derived.Test.YtbecblfbikahkaaGreatDoorDa
import Derived.Laws.Entries
import Derived.Laws.Tables
import Derived.Laws.Slices
import Derived.Laws.Strings
import Derived.IntWalk
set_option linter.all false
set_option linter.deprecated false
namespace Go.D
open Go

def DoesV (P : Program) (ρ : Mp) (s : St) (w : World) (r : Result Value) (dv : DV) (s' : St) : Prop :=
  ∃ ρ' w' v, r = .ok v w' ∧ VR ρ' dv v ∧ Went P ρ s w ρ' s' w'
def DoesU (P : Program) (ρ : Mp) (s : St) (w : World) (r : Result Unit) (s' : St) : Prop :=
  ∃ ρ' w', r = .ok () w' ∧ Went P ρ s w ρ' s' w'

theorem DoesV.same {P : Program} {ρ : Mp} {s : St} {w : World} (hR : R P ρ s w) {dv : DV} {v : Value} (h : VR ρ dv v) : DoesV P ρ s w (.ok v w) dv s :=
  ⟨ρ, w, v, rfl, h, Went.refl hR⟩
theorem DoesV.alike {P : Program} {ρ : Mp} {s : St} {w w' : World} (hR : R P ρ s w) (ha : Alike w w') {dv : DV} {v : Value} (h : VR ρ dv v) : DoesV P ρ s w (.ok v w') dv s :=
  ⟨ρ, w', v, rfl, h, Went.of_alike hR ha⟩

section
variable {P : Program} {ρ : Mp} {s : St} {w : World}

theorem run_typeInfo' {t : TypeId} {i : TypeInfo} (h : P.info? t = some i) : (typeInfo t).run P w = .ok i w := by
  simp [typeInfo, h]
theorem run_underlying' {t : TypeId} {d : TypeDesc} (h : P.underlying t = some d) : (underlying t).run P w = .ok d w := by
  simp [underlying, h]
theorem run_sizeOf' {t n : Nat} (h : sizeC P t = some n) : (sizeOf t).run P w = .ok n w := by
  unfold sizeC at h
  cases hi : P.info? t with
  | none => rw [hi] at h; cases h
  | some i => rw [hi] at h; injection h with h; simp [sizeOf, run_typeInfo' hi]; exact h
theorem run_isAgg' {t : Nat} {g : Bool} (h : isAggC P t = some g) : (isAgg t).run P w = .ok g w := by
  unfold isAggC at h
  cases hu : P.underlying t with
  | none => rw [hu] at h; cases h
  | some d =>
    rw [hu] at h
    simp only [isAgg, Sem.run_bind, run_underlying' hu, Result.andThen_ok]
    cases d <;> (simp at h; subst h; rfl)

theorem add_eq (B o n : Nat) : (Addr.mk B o none).add n = ⟨B, o + n, none⟩ := by
  unfold Addr.add
  split
  · rename_i h; subst h; rfl
  · rfl

theorem cellR (hR : R P ρ s w) {b : Nat} {x : BI} {cs : List DV} {el : TypeId} {n : Nat} (hb : ρ b = some x) (ho : getB s b = some (.cells cs el n)) {i : Nat} {d : DV} (hi : cs[i]? = some d) :
    ∃ v, w.cell? ⟨x.blk, x.base + i, none⟩ = some v ∧ VR ρ d v := by
  obtain ⟨rc, lo, hi', h1, h2, h3, h4, h6, h7⟩ := hR.obj b x _ hb ho
  obtain ⟨v, hv, hr⟩ := h7.get i d hi
  refine ⟨v, ?_, hr⟩
  have hlt : i < cs.length := by
    rcases Nat.lt_or_ge i cs.length with h | h
    · exact h
    · rw [List.getElem?_eq_none h] at hi; cases hi
  rw [List.getElem?_take, if_pos hlt, List.getElem?_drop] at hv
  simp only [World.cell?, h1]
  simpa using hv

theorem loadN_sound (hR : R P ρ s w) {b o n : Nat} {x : BI} {l : List DV} (hb : ρ b = some x) (h : loadN s b o n = some l) :
    ∃ vs : List Value, (loadCells ⟨x.blk, x.base + o, none⟩ n).run P w = .ok vs.toArray w ∧ VRs ρ l vs := by
  unfold loadN at h
  cases hg : getB s b with
  | none => rw [hg] at h; cases h
  | some ob =>
    rw [hg] at h
    cases ob with
    | cells cs el nn =>
      obtain ⟨h1, rfl⟩ := grab_eq _ _ _ _ h
      obtain ⟨rc, lo, hi', k1, k2, k3, k4, k6, k7⟩ := hR.obj b x _ hb hg
      have hV := (k7.drop o).take n
      refine ⟨_, ?_, hV⟩
      have hlen : ((List.drop o (List.take cs.length (List.drop x.base rc.toList))).take n).length = n := by
        simp; omega
      have := run_loadCells_list (P := P) w ⟨x.blk, x.base + o, none⟩ ((List.drop o (List.take cs.length (List.drop x.base rc.toList))).take n) (by
        intro j v hj
        rw [add_eq]
        simp only [World.cell?, k1]
        rw [List.getElem?_take] at hj
        split at hj
        · rw [List.getElem?_drop, List.getElem?_take] at hj
          split at hj
          · rw [List.getElem?_drop] at hj
            simpa [Nat.add_assoc] using hj
          · cases hj
        · cases hj)
      rw [hlen] at this
      exact this
    | map _ => cases h
    | iter _ _ => cases h
    | dead => cases h

theorem s_loadL (hR : R P ρ s w) {t n : Nat} {g : Bool} {d dv : DV} {v : Value} {s' : St} (hg : isAggC P t = some g) (hn : sizeC P t = some n) (hv : VR ρ d v)
    (h : opLoad s g n d = some (dv, s')) : s' = s ∧ ∃ v', (Instr.loadAt t v).run P w = .ok v' w ∧ VR ρ dv v' := by
  unfold opLoad at h
  split at h
  · rename_i b o
    cases hv with
    | ptr hb =>
      rename_i x
      simp only [Instr.loadAt, Instr.sureAddr, Sem.run_bind, Sem.run_pure, Result.andThen_ok, loadVar, run_isAgg' hg]
      unfold loadV at h
      cases g with
      | true =>
        simp only [if_true, Sem.run_bind, run_sizeOf' hn, Result.andThen_ok]
        cases hl : loadN s b o n with
        | none => rw [hl] at h; simp [valO] at h
        | some l =>
          rw [hl] at h; simp only [valO] at h; injection h with h; injection h with h1 h2; subst h1; subst h2
          obtain ⟨vs, hr, hV⟩ := loadN_sound hR hb hl
          rw [hr]
          simp only [Result.andThen_ok, Sem.run_pure]
          exact ⟨trivial, _, rfl, .agg hV⟩
      | false =>
        simp only [Bool.false_eq_true, if_false]
        cases hl : loadN s b o 1 with
        | none => rw [hl] at h; simp [valO] at h
        | some l =>
          rw [hl] at h
          obtain ⟨vs, hr, hV⟩ := loadN_sound hR hb hl
          cases hV with
          | nil => simp [valO] at h
          | @cons v0 _ _ _ hv t =>
            cases t with
            | cons _ _ => simp [valO] at h
            | nil =>
              simp only [valO] at h; injection h with h; injection h with h1 h2; subst h1; subst h2
              -- one cell
              unfold loadN at hl
              cases hgb : getB s b with
              | none => rw [hgb] at hl; cases hl
              | some ob =>
                rw [hgb] at hl
                cases ob with
                | cells cs el nn =>
                  obtain ⟨q1, q2⟩ := grab_eq _ _ _ _ hl
                  have : cs[o]? = some v0 := by
                    have := congrArg (fun l => l[0]?) q2
                    simp at this
                    exact this.symm
                  obtain ⟨v', c1, c2⟩ := cellR hR hb hgb this
                  simp only [run_load, c1]
                  exact ⟨trivial, _, rfl, c2⟩
                | map _ => cases hl
                | iter _ _ => cases hl
                | dead => cases hl
  · cases h

theorem s_load (hR : R P ρ s w) {t n : Nat} {g : Bool} {d dv : DV} {v : Value} {s' : St} (hg : isAggC P t = some g) (hn : sizeC P t = some n) (hv : VR ρ d v)
    (h : opLoad s g n d = some (dv, s')) : DoesV P ρ s w ((Instr.loadAt t v).run P w) dv s' := by
  obtain ⟨rfl, v', h1, h2⟩ := s_loadL hR hg hn hv h
  exact ⟨ρ, w, v', h1, h2, Went.refl hR⟩

/-- what a store makes of a row -/
theorem run_storeCells {B : Nat} {el : TypeId} {lo hi : Nat} :
    ∀ (vs : List Value) (off : Nat) (w : World) (rc : Array Value), w.heap[B]? = some (.cells rc el (lo, hi)) → (∀ v ∈ vs, v.oneCell' = true) → off + vs.length ≤ rc.size →
      (∀ i, i < rc.size → ¬ (lo ≤ i ∧ i < hi)) →
      ∀ k base, base + k = off → ∃ w' rc', (storeCells ⟨B, base, none⟩ vs k).run P w = .ok () w' ∧ w'.os = w.os ∧ w'.tape = w.tape ∧ w'.output = w.output ∧ w'.heap.size = w.heap.size ∧
        (∀ j, j ≠ B → w'.heap[j]? = w.heap[j]?) ∧ w'.heap[B]? = some (.cells rc' el (lo, hi)) ∧ rc'.size = rc.size ∧ rc'.toList = rc.toList.take off ++ (vs ++ rc.toList.drop (off + vs.length)) := by
  intro vs
  induction vs with
  | nil =>
    intro off w rc hB hv hle hf k base hk
    refine ⟨w, rc, by simp [storeCells], rfl, rfl, rfl, rfl, fun _ _ => rfl, hB, rfl, by simp⟩
  | cons v r ih =>
    intro off w rc hB hv hle hf k base hk
    simp only [List.length_cons] at hle
    have hlt : off < rc.size := by omega
    have hc : w.cell? ⟨B, off, none⟩ = some rc[off] := by
      simp only [World.cell?, hB]; simp [hlt]
    have hfz : w.frozen? ⟨B, off, none⟩ = false := by
      simp only [World.frozen?, hB]
      have := hf off hlt
      by_cases h1 : lo ≤ off
      · simp [h1]; omega
      · simp [h1]
    have hB' : (w.setCell ⟨B, off, none⟩ v).heap[B]? = some (.cells (rc.setIfInBounds off v) el (lo, hi)) := by
      simp only [World.setCell, Array.getElem?_modify, if_true, hB]
      simp
    obtain ⟨w', rc', h1, h2, h3, h4, h5, h6, h7, h8, h9⟩ := ih (off + 1) (w.setCell ⟨B, off, none⟩ v) (rc.setIfInBounds off v) hB' (fun u hu => hv u (by simp [hu])) (by simp; omega)
      (by intro i hi; exact hf i (by simpa using hi)) (k + 1) base (by omega)
    refine ⟨w', rc', ?_, h2, h3, h4, ?_, ?_, h7, by rw [h8]; simp, ?_⟩
    · simp only [storeCells, Sem.run_bind]
      rw [add_eq, hk, run_store P w _ _ _ (hv v (by simp)), hc]
      simp only [hfz, Bool.false_eq_true, if_false, Result.andThen_ok]
      exact h1
    · rw [h5]; simp
    · intro j hj
      rw [h6 j hj]
      simp only [World.setCell, Array.getElem?_modify]
      rw [if_neg (Ne.symm hj)]
    · rw [h9]
      rw [Array.toList_setIfInBounds]
      apply List.ext_getElem?
      intro j
      simp only [List.getElem?_append, List.getElem?_take, List.getElem?_drop, List.getElem?_set, List.length_take, List.length_set, Array.length_toList, List.length_cons]
      by_cases a1 : j < off
      · simp [show min (off + 1) rc.size = off + 1 by omega, show min off rc.size = off by omega, show j < off + 1 by omega, a1, show off ≠ j by omega]
      · by_cases a2 : j = off
        · subst a2
          simp [show min (j + 1) rc.size = j + 1 by omega, show min j rc.size = j by omega, hlt]
        · obtain ⟨m, hm⟩ : ∃ m, j = off + 1 + m := ⟨j - off - 1, by omega⟩
          subst hm
          simp only [show min (off + 1) rc.size = off + 1 by omega, show min off rc.size = off by omega, show ¬ (off + 1 + m < off + 1) by omega, show ¬ (off + 1 + m < off) by omega, if_false,
            show off + 1 + m - (off + 1) = m by omega, show off + 1 + m - off = m + 1 by omega]
          by_cases a3 : m < r.length
          · simp [a3]
          · simp only [a3, if_false, show ¬ (m + 1 < r.length + 1) by omega]
            rw [show m + 1 - (r.length + 1) = m - r.length by omega, if_neg (by omega), show off + (r.length + 1) + (m - r.length) = off + 1 + r.length + (m - r.length) by omega]

theorem atoms_sound : ∀ {l : List DV} {vs : List Value}, atoms l = true → VRs ρ l vs → ∀ v ∈ vs, v.oneCell' = true
  | _, _, _, .nil, _, h => by cases h
  | _, _, ha, .cons hv t, u, hu => by
    simp only [atoms] at ha
    cases hx : isAtom _ with
    | false => rw [hx] at ha; cases ha
    | true =>
      rw [hx] at ha
      rcases List.mem_cons.1 hu with rfl | hu
      · cases hv <;> first | rfl | cases hx
      · exact atoms_sound ha t u hu

/-- cells written into a live block, from a place on -/
theorem storeN_sound (hR : R P ρ s w) {b o : Nat} {x : BI} {l : List DV} {vs : List Value} {s' : St} (hb : ρ b = some x) (hV : VRs ρ l vs) (h : storeN s b o l = some s') :
    DoesU P ρ s w ((storeCells ⟨x.blk, x.base + o, none⟩ vs).run P w) s' := by
  unfold storeN at h
  cases hg : getB s b with
  | none => rw [hg] at h; cases h
  | some ob =>
    rw [hg] at h
    cases ob with
    | cells cs el nn =>
      cases ha : atoms l with
      | false => rw [ha] at h; cases h
      | true =>
        rw [ha] at h
        simp only [cond_true] at h
        cases hgr : graft cs o l with
        | none => rw [hgr] at h; cases h
        | some m =>
          rw [hgr] at h; simp only at h; injection h with h; subst h
          obtain ⟨q1, rfl⟩ := graft_eq _ _ _ _ hgr
          obtain ⟨rc, lo, hi', k1, k2, k3, k4, k6, k7⟩ := hR.obj b x _ hb hg
          have hlen := hV.length
          obtain ⟨w', rc', h1, h2, h3, h4, h5, h6, h7, h8, h9⟩ := run_storeCells (P := P) vs (x.base + o) w rc k1 (atoms_sound ha hV) (by omega) k3 0 (x.base + o) (by omega)
          refine ⟨ρ, w', h1, R.write hR hb ⟨_, hg, by simp⟩ _ h2 h3 h4 h5 h6 ⟨rc', lo, hi', h7, by omega, by rw [h8]; exact k3, k4, ?_, ?_⟩ (fun hln => by
            obtain ⟨g1, g2⟩ := hR.lone b x _ hb hg hln
            exact ⟨g1, by rw [g2]; simp only [List.length_append, List.length_take, List.length_drop]; omega⟩) (fun _ _ _ he => by
            injection he with _ he1 _
            subst he1
            refine ⟨_, _, _, hg, fun rc1 fr hh => ?_⟩
            rw [k1] at hh; injection hh with hh; injection hh with _ _ hh2; subst hh2
            exact ⟨_, h7⟩)⟩
          · simp only [List.length_append, List.length_take, List.length_drop]; omega
          · have hn : (cs.take o ++ (l ++ cs.drop (o + l.length))).length = cs.length := by
              simp only [List.length_append, List.length_take, List.length_drop]; omega
            rw [hn, h9]
            have e1 : List.take cs.length (List.drop x.base (List.take (x.base + o) rc.toList ++ (vs ++ List.drop (x.base + o + vs.length) rc.toList)))
                = List.take o (List.take cs.length (List.drop x.base rc.toList)) ++ (vs ++ List.drop (o + vs.length) (List.take cs.length (List.drop x.base rc.toList))) := by
              apply List.ext_getElem?
              intro j
              have hrl : rc.toList.length = x.lim := by simpa using k2
              simp only [List.getElem?_append, List.getElem?_take, List.getElem?_drop, List.length_take, List.length_drop, hrl]
              by_cases a1 : j < o
              · simp [show x.base + j < min (x.base + o) x.lim by omega, show x.base + j < x.base + o by omega, show j < cs.length by omega, show j < min o (min cs.length (x.lim - x.base)) by omega, a1]
              · obtain ⟨m, rfl⟩ : ∃ m, j = o + m := ⟨j - o, by omega⟩
                simp only [show ¬ (x.base + (o + m) < min (x.base + o) x.lim) by omega, show ¬ (o + m < min o (min cs.length (x.lim - x.base))) by omega, if_false,
                  show x.base + (o + m) - min (x.base + o) x.lim = m by omega, show o + m - min o (min cs.length (x.lim - x.base)) = m by omega]
                by_cases a2 : m < vs.length
                · simp [a2, show o + m < cs.length by omega]
                · simp only [a2, if_false]
                  by_cases a3 : o + m < cs.length
                  · simp only [a3, if_true, show o + vs.length + (m - vs.length) = o + m by omega, show x.base + o + vs.length + (m - vs.length) = x.base + (o + m) by omega]
                  · simp only [a3, if_false, show o + vs.length + (m - vs.length) = o + m by omega]
            rw [e1]
            have e2 := ((k7.take o).append (hV.append (k7.drop (o + l.length))))
            rw [hlen] at e2
            rw [hlen]
            exact e2
    | map _ => cases h
    | iter _ _ => cases h
    | dead => cases h
end
end Go.D
namespace Go.D
open Go

section
variable {ρ : Mp}
mutual
theorem ofValue_sound : ∀ (v : Value) (d : DV), ofValue v = some d → VR ρ d v
  | .bool b, d, h => by simp only [ofValue] at h; injection h with h; subst h; exact .bool b
  | .int k n, d, h => by simp only [ofValue] at h; injection h with h; subst h; exact .int k n
  | .string s, d, h => by simp only [ofValue] at h; injection h with h; subst h; exact .str s
  | .pointer none, d, h => by simp only [ofValue] at h; injection h with h; subst h; exact .ptrNil
  | .pointer (some _), d, h => by simp [ofValue] at h
  | .slice none 0 0, d, h => by simp only [ofValue] at h; injection h with h; subst h; exact .sliceNil
  | .slice none 0 (_ + 1), d, h => by simp [ofValue] at h
  | .slice none (_ + 1) _, d, h => by simp [ofValue] at h
  | .slice (some _) _ _, d, h => by simp [ofValue] at h
  | .map none, d, h => by simp only [ofValue] at h; injection h with h; subst h; exact .mapNil
  | .map (some _), d, h => by simp [ofValue] at h
  | .nilFunc, d, h => by simp only [ofValue] at h; injection h with h; subst h; exact .nilFunc
  | .nilIface, d, h => by simp only [ofValue] at h; injection h with h; subst h; exact .nilIface
  | .iface t v, d, h => by
    simp only [ofValue] at h
    split at h
    · injection h with h; subst h; exact .iface t (ofValue_sound v _ ‹_›)
    · cases h
  | .agg ⟨cs⟩, d, h => by
    simp only [ofValue] at h
    split at h
    · injection h with h; subst h; exact .agg (ofValues_sound cs _ ‹_›)
    · cases h
  | .tuple ⟨cs⟩, d, h => by
    simp only [ofValue] at h
    split at h
    · injection h with h; subst h; exact .tuple (ofValues_sound cs _ ‹_›)
    · cases h
  | .float _ _, d, h => by simp [ofValue] at h
  | .complex _ _ _, d, h => by simp [ofValue] at h
  | .chan _, d, h => by simp [ofValue] at h
  | .func _ _ _, d, h => by simp [ofValue] at h
theorem ofValues_sound : ∀ (vs : List Value) (l : List DV), ofValues vs = some l → VRs ρ l vs
  | [], l, h => by simp only [ofValues] at h; injection h with h; subst h; exact .nil
  | v :: vs, l, h => by
    simp only [ofValues] at h
    split at h
    · injection h with h; subst h; exact .cons (ofValue_sound v _ ‹_›) (ofValues_sound vs _ ‹_›)
    · cases h
end
end

section
variable {P : Program} {ρ : Mp} {s : St} {w : World}

/-- the frame's slots, one by one -/
def EnvR (ρ : Mp) (e : Env) (tmps : Array Value) : Prop := ∀ t, VR ρ (egt e t) (tmps.getD t undef)
theorem EnvR.mono {ρ ρ' : Mp} (hm : ρ.le ρ') {e : Env} {tmps : Array Value} (h : EnvR ρ e tmps) : EnvR ρ' e tmps := fun t => (h t).mono hm

theorem ev_sound (hR : R P ρ s w) {e : Env} {a : Act} (hE : EnvR ρ e a.tmps) {x : Operand} {d : Opd} (hc : opdC P x = some d) : VR ρ (ev e d) (a.eval x) := by
  cases x with
  | tmp t =>
    simp only [opdC] at hc; injection hc with hc; subst hc
    exact hE t
  | const v =>
    simp only [opdC] at hc
    cases hv : ofValue v with
    | none => rw [hv] at hc; cases hc
    | some q => rw [hv] at hc; injection hc with hc; subst hc; exact ofValue_sound v q hv
  | global g =>
    simp only [opdC] at hc
    cases hg : Nat.blt g P.globals.size with
    | false => rw [hg] at hc; cases hc
    | true =>
      rw [hg] at hc; simp only [cond_true] at hc; injection hc with hc; subst hc
      obtain ⟨y, e1, e2, e3⟩ := hR.glob g (by have := Nat.le_of_ble_eq_true hg; omega)
      have := VR.ptr (o := 0) e1
      rw [e2, e3] at this
      exact this
  | func f =>
    simp only [opdC] at hc; injection hc with hc; subst hc
    exact .func _ .nil .nil

theorem evs_sound (hR : R P ρ s w) {e : Env} {a : Act} (hE : EnvR ρ e a.tmps) : ∀ {xs : List Operand} {ds : List Opd}, opdsC P xs = some ds →
    VRs ρ (evs e ds) (xs.map a.eval)
  | [], ds, hc => by simp only [opdsC] at hc; injection hc with hc; subst hc; exact .nil
  | x :: r, ds, hc => by
    simp only [opdsC] at hc
    split at hc
    · rename_i q l h1 h2
      injection hc with hc; subst hc
      exact .cons (ev_sound hR hE h1) (evs_sound hR hE h2)
    · cases hc

theorem zeroC_sound {t : Nat} {z : DV} (h : zeroC P t = some z) : ∃ ti v, P.info? t = some ti ∧ ti.zero = some v ∧ ofValue v = some z ∧ ∀ w, (zeroValue t).run P w = .ok v w := by
  unfold zeroC at h
  cases hi : P.info? t with
  | none => rw [hi] at h; cases h
  | some ti =>
    rw [hi] at h
    cases hz : ti.zero with
    | none => simp [hz] at h
    | some v =>
      simp [hz] at h
      exact ⟨ti, v, rfl, hz, h, fun w => by simp [zeroValue, run_typeInfo' hi, hz]⟩

/-- a new row -/
theorem new_row (hR : R P ρ s w) {cs : List DV} {vs : Array Value} (el : TypeId) (n : Nat) (hl : cs.length ≤ vs.size)
    (hV : VRs ρ cs (vs.toList.take cs.length)) {w' : World} (ha : Alike (w.alloc (.cells vs el)) w') (hlo : selfC P el = true → vs.size = cs.length) :
    Went P ρ s w (upd ρ s.next ⟨w.heap.size, 0, vs.size, n⟩) (alloc s (.cells cs el n)) w' := by
  refine R.alloc hR _ _ _ rfl ha ⟨vs, 0, 0, ?_, rfl, fun i _ h => by omega, rfl, by simp; exact hl, ?_⟩ (fun h => ⟨rfl, hlo h⟩)
  · show (w.heap.push _)[w.heap.size]? = _
    simp
  · simpa using hV.mono (upd_le hR _)

theorem s_alloc (hR : R P ρ s w) {t n : Nat} {z : DV} (hz : zeroC P t = some z) {dv : DV} {s' : St} (h : opAlloc s t n z.cells = some (dv, s')) :
    DoesV P ρ s w ((Instr.alloc t true (.tuple #[])).run P w) dv s' := by
  obtain ⟨ti, v, hi, _, hv, hrun⟩ := zeroC_sound hz
  unfold opAlloc at h; injection h with h; injection h with h1 h2; subst h1; subst h2
  have hV : VRs ρ z.cells v.cells.toList := (ofValue_sound v z hv).cells
  have hn := hV.length
  have hw := new_row hR t n (cs := z.cells) (vs := v.cells) (by simpa using Nat.le_of_eq hn) (by rw [hn, List.take_length]; exact hV) (Alike.refl _) (fun _ => by simpa using hn.symm)
  refine ⟨_, _, .pointer (some ⟨w.heap.size, 0, none⟩), ?_, ?_, hw⟩
  · simp only [Instr.alloc, Sem.run_bind, hrun, Result.andThen_ok, newVar, newRow, run_newObj, Sem.run_pure, World.alloc_eq]
  · have := VR.ptr (ρ := upd ρ s.next ⟨w.heap.size, 0, v.cells.size, n⟩) (b := s.next) (o := 0) (upd_self _ _ _)
    simpa using this

theorem s_box (hR : R P ρ s w) {t n : Nat} {d : DV} {v : Value} (hv : VR ρ d v) {dv : DV} {s' : St} (h : opAlloc s t n d.cells = some (dv, s')) :
    DoesV P ρ s w ((Instr.box t v).run P w) dv s' := by
  unfold opAlloc at h; injection h with h; injection h with h1 h2; subst h1; subst h2
  have hV := hv.cells
  have hl := hV.length
  have hw := new_row hR t n (cs := d.cells) (vs := v.cells) (by simpa using Nat.le_of_eq hl) (by rw [hl, List.take_length]; exact hV) (Alike.refl _) (fun _ => by simpa using hl.symm)
  refine ⟨_, _, .pointer (some ⟨w.heap.size, 0, none⟩), ?_, ?_, hw⟩
  · simp only [Instr.box, Sem.run_bind, Result.andThen_ok, newVar, newRow, run_newObj, Sem.run_pure, World.alloc_eq]
  · have := VR.ptr (ρ := upd ρ s.next ⟨w.heap.size, 0, v.cells.size, n⟩) (b := s.next) (o := 0) (upd_self _ _ _)
    simpa using this

/-- what the model's fill does with one part -/
theorem foldl_set (off : Nat) : ∀ (l : List Value) (k : Nat) (cs : Array Value), off + k + l.length ≤ cs.size →
    ((l.zipIdx k).foldl (fun cs (c, j) => cs.setIfInBounds (off + j) c) cs).toList = cs.toList.take (off + k) ++ (l ++ cs.toList.drop (off + k + l.length))
  | [], k, cs, h => by simp
  | v :: r, k, cs, h => by
    simp only [List.length_cons] at h
    simp only [List.zipIdx_cons, List.foldl_cons]
    rw [foldl_set off r (k + 1) _ (by simp; omega)]
    rw [Array.toList_setIfInBounds]
    apply List.ext_getElem?
    intro j
    simp only [List.getElem?_append, List.getElem?_take, List.getElem?_drop, List.getElem?_set, List.length_take, List.length_set, Array.length_toList, List.length_cons]
    by_cases a1 : j < off + k
    · simp [show min (off + (k + 1)) cs.size = off + k + 1 by omega, show min (off + k) cs.size = off + k by omega, show j < off + k + 1 by omega, show j < off + (k + 1) by omega, a1, show off + k ≠ j by omega]
    · by_cases a2 : j = off + k
      · subst a2
        simp [show min (off + (k + 1)) cs.size = off + k + 1 by omega, show min (off + k) cs.size = off + k by omega, show off + k < off + (k + 1) by omega, show off + k < cs.size by omega]
      · obtain ⟨m, hm⟩ : ∃ m, j = off + k + 1 + m := ⟨j - (off + k) - 1, by omega⟩
        subst hm
        simp only [show min (off + (k + 1)) cs.size = off + k + 1 by omega, show min (off + k) cs.size = off + k by omega, show ¬ (off + k + 1 + m < off + k + 1) by omega, show ¬ (off + k + 1 + m < off + k) by omega, if_false,
          show off + k + 1 + m - (off + k + 1) = m by omega, show off + k + 1 + m - (off + k) = m + 1 by omega]
        by_cases a3 : m < r.length
        · simp [a3]
        · simp only [a3, if_false, show ¬ (m + 1 < r.length + 1) by omega]
          rw [show m + 1 - (r.length + 1) = m - r.length by omega, if_neg (by omega), show off + k + (r.length + 1) + (m - r.length) = off + (k + 1) + r.length + (m - r.length) by omega]
  termination_by l => l.length

/-- parts against the model's -/
inductive PRs (ρ : Mp) (place : Nat → Option (Nat × Nat)) : List (Nat × Nat × DV) → List (Nat × Value) → Prop where
  | nil : PRs ρ place [] []
  | cons {i o n : Nat} {d : DV} {v : Value} {l : List (Nat × Nat × DV)} {l' : List (Nat × Value)} (h : place i = some (o, n)) (hv : VR ρ d v) (t : PRs ρ place l l') : PRs ρ place ((o, n, d) :: l) ((i, v) :: l')

theorem fill_sound {place : Nat → Option (Nat × Nat)} : ∀ {ps : List (Nat × Nat × DV)} {qs : List (Nat × Value)} (_ : PRs ρ place ps qs) (at_ : Nat) (cells l : List DV) (cs : Array Value),
    fillD at_ cells ps = some l → at_ ≤ cs.size → VRs ρ cells (cs.toList.drop at_) →
    ∃ cs' : Array Value, Instr.fill place cs qs = some cs' ∧ cs'.size = cs.size ∧ cs'.toList.take at_ = cs.toList.take at_ ∧ VRs ρ l (cs'.toList.drop at_)
  | _, _, .nil, at_, cells, l, cs, h, _, hV => by
    simp only [fillD] at h; injection h with h; subst h
    exact ⟨cs, rfl, rfl, rfl, hV⟩
  | _, _, .cons (i := i) (o := o) (n := n) (d := d) (v := v) (l := ps) (l' := qs) hp hv t, at_, cells, l, cs, h, ha, hV => by
    simp only [fillD] at h
    cases hc : Nat.ble at_ o && Nat.beq (len d.cells) n with
    | false => rw [hc] at h; cases h
    | true =>
      rw [hc] at h
      simp only [cond_true] at h
      simp only [Bool.and_eq_true] at hc
      have h1 : at_ ≤ o := Nat.le_of_ble_eq_true hc.1
      have h2 : d.cells.length = n := by have := Nat.eq_of_beq_eq_true hc.2; rw [len_eq] at this; exact this
      split at h
      · rename_i pre r hp1 hp2
        obtain ⟨q1, rfl⟩ := takeE_eq _ _ _ hp1
        obtain ⟨q2, rfl⟩ := dropE_eq _ _ _ hp2
        split at h
        · rename_i m hm
          injection h with h; subst h
          have hvl : v.cells.size = n := by have := hv.cells.length; simp at this; omega
          have hcl : cells.length = cs.size - at_ := by have := hV.length; simpa using this
          have hfs := foldl_set o v.cells.toList 0 cs (by simp; omega)
          have hfold : ∃ A : Array Value, v.cells.zipIdx.foldl (fun cs (c, j) => cs.setIfInBounds (o + j) c) cs = A ∧ A.toList = cs.toList.take o ++ (v.cells.toList ++ cs.toList.drop (o + n)) := by
            refine ⟨_, rfl, ?_⟩
            rw [← Array.foldl_toList, Array.toList_zipIdx]
            rw [hfs]; simp [hvl]
          obtain ⟨A, hA, hAl⟩ := hfold
          have hAs : A.size = cs.size := by
            have := congrArg List.length hAl
            simp at this; omega
          have hV2 : VRs ρ (List.drop (o - at_ + n) cells) (A.toList.drop (o + n)) := by
            have := hV.drop (o - at_ + n)
            rw [List.drop_drop, show at_ + (o - at_ + n) = o + n by omega] at this
            rw [hAl, List.drop_append, List.drop_append]
            have e1 : List.drop (o + n) (List.take o cs.toList) = [] := List.drop_eq_nil_of_le (by simp; omega)
            have e2 : List.drop (o + n - (List.take o cs.toList).length) v.cells.toList = [] := List.drop_eq_nil_of_le (by simp; omega)
            rw [e1, e2]
            simp only [List.nil_append]
            rw [show o + n - (List.take o cs.toList).length - v.cells.toList.length = 0 by simp; omega]
            exact this
          obtain ⟨cs', k1, k2, k3, k4⟩ := fill_sound t (o + n) _ _ A hm (by omega) hV2
          refine ⟨cs', ?_, by omega, ?_, ?_⟩
          · simp only [Instr.fill, hp]
            rw [if_neg (by
              intro hh
              simp only [Bool.or_eq_true, decide_eq_true_eq] at hh
              omega)]
            rw [hA]; exact k1
          · have e1 : cs'.toList.take at_ = (cs'.toList.take (o + n)).take at_ := by rw [List.take_take, show min at_ (o + n) = at_ by omega]
            rw [e1, k3, List.take_take, show min at_ (o + n) = at_ by omega, hAl, List.take_append, List.take_take, show min at_ o = at_ by omega]
            rw [show at_ - (List.take o cs.toList).length = 0 by simp; omega]
            simp
          · have e1 : cs'.toList.drop at_ = (cs'.toList.take (o + n)).drop at_ ++ cs'.toList.drop (o + n) := by
              have e0 := (List.take_append_drop (o + n) cs'.toList)
              conv => lhs; rw [← e0]
              rw [List.drop_append]
              rw [show at_ - (List.take (o + n) cs'.toList).length = 0 by simp; omega]
              simp
            rw [e1, k3, hAl]
            have e2 : List.drop at_ (List.take (o + n) (List.take o cs.toList ++ (v.cells.toList ++ List.drop (o + n) cs.toList))) = (cs.toList.drop at_).take (o - at_) ++ v.cells.toList := by
              apply List.ext_getElem?
              intro j
              simp only [List.getElem?_drop, List.getElem?_take, List.getElem?_append, List.length_take, List.length_drop, Array.length_toList]
              by_cases a1 : j < o - at_
              · simp [show at_ + j < o + n by omega, show at_ + j < min o cs.size by omega, show at_ + j < o by omega, a1, show j < min (o - at_) (cs.size - at_) by omega]
              · by_cases a2 : at_ + j < o + n
                · simp only [a2, if_true, show ¬ (at_ + j < min o cs.size) by omega, if_false, show at_ + j - min o cs.size < v.cells.size by omega, show ¬ (j < min (o - at_) (cs.size - at_)) by omega,
                    show at_ + j - min o cs.size = j - min (o - at_) (cs.size - at_) by omega]
                  rw [if_pos (by omega)]
                · simp only [a2, if_false, show ¬ (j < min (o - at_) (cs.size - at_)) by omega]
                  rw [List.getElem?_eq_none (by simp; omega)]
            rw [e2]
            have := ((hV.take (o - at_)).append hv.cells).append k4
            simpa using this
        · cases h
      · cases h

theorem evp_sound (hR : R P ρ s w) {e : Env} {a : Act} (hE : EnvR ρ e a.tmps) {place : Nat → Option (Nat × Nat)} : ∀ {xs : List (Nat × Operand)} {ds : List (Nat × Nat × Opd)},
    partsC P place xs = some ds → PRs ρ place (evp e ds) (xs.map fun (i, x) => (i, a.eval x))
  | [], ds, hc => by simp only [partsC] at hc; injection hc with hc; subst hc; exact .nil
  | (i, x) :: r, ds, hc => by
    simp only [partsC] at hc
    split at hc
    · rename_i o n q l h1 h2 h3
      injection hc with hc; subst hc
      exact .cons h1 (ev_sound hR hE h2) (evp_sound hR hE h3)
    · cases hc
end
end Go.D
namespace Go.D
open Go

section
variable {P : Program} {ρ : Mp} {s : St} {w : World}

theorem fieldsC_eq : ∀ {fs : List Field} {l : List (Nat × Nat)}, fieldsC P fs = some l → fs.mapM (fun f => (P.info? f.type).map fun i => (f.offset, i.size)) = some l
  | [], l, h => by simp only [fieldsC] at h; injection h with h; subst h; rfl
  | f :: r, l, h => by
    simp only [fieldsC] at h
    split at h
    · rename_i n m h1 h2
      injection h with h; subst h
      unfold sizeC at h1
      cases hi : P.info? f.type with
      | none => rw [hi] at h1; cases h1
      | some i =>
        rw [hi] at h1; injection h1 with h1; subst h1
        simp [List.mapM_cons, hi, fieldsC_eq h2]
    · cases h

theorem s_buildStruct (hR : R P ρ s w) {t : Nat} {z dv : DV} {fs : Array Field} {l : List (Nat × Nat)} {ps : List (Nat × Nat × DV)} {qs : Array (Nat × Value)} {s' : St}
    (hz : zeroC P t = some z) (hu : P.underlying t = some (.struct fs)) (hl : fieldsC P fs.toList = some l) (hp : PRs ρ (fun i => l[i]?) ps qs.toList)
    (h : opBuild s z.cells ps = some (dv, s')) : DoesV P ρ s w ((Instr.build t qs).run P w) dv s' := by
  obtain ⟨ti, v, hi, hzv, hv, _⟩ := zeroC_sound hz
  unfold opBuild at h
  split at h
  · rename_i m hm
    injection h with h; injection h with h1 h2; subst h1; subst h2
    obtain ⟨cs', k1, k2, k3, k4⟩ := fill_sound hp 0 _ _ v.cells hm (by omega) (by simpa using (ofValue_sound v z hv).cells)
    rw [run_build w t qs cs' (by simp only [Program.built, hi, hu, hzv, fieldsC_eq hl]; simpa using k1)]
    exact DoesV.same hR (.agg (by simpa using k4))
  · cases h

theorem s_buildArray (hR : R P ρ s w) {t e n m : Nat} {z dv : DV} {ps : List (Nat × Nat × DV)} {qs : Array (Nat × Value)} {s' : St}
    (hz : zeroC P t = some z) (hu : P.underlying t = some (.array m e)) (hn : sizeC P e = some n) (hp : PRs ρ (fun i => some (i * n, n)) ps qs.toList)
    (h : opBuild s z.cells ps = some (dv, s')) : DoesV P ρ s w ((Instr.build t qs).run P w) dv s' := by
  obtain ⟨ti, v, hi, hzv, hv, _⟩ := zeroC_sound hz
  unfold sizeC at hn
  cases hie : P.info? e with
  | none => rw [hie] at hn; cases hn
  | some ie =>
    rw [hie] at hn; injection hn with hn; subst hn
    unfold opBuild at h
    split at h
    · rename_i q hm
      injection h with h; injection h with h1 h2; subst h1; subst h2
      obtain ⟨cs', k1, k2, k3, k4⟩ := fill_sound hp 0 _ _ v.cells hm (by omega) (by simpa using (ofValue_sound v z hv).cells)
      rw [run_build w t qs cs' (by simp only [Program.built, hi, hu, hzv, hie]; simpa using k1)]
      exact DoesV.same hR (.agg (by simpa using k4))
    · cases h

theorem repCells_length (z : List DV) : ∀ n, (repCells z n).length = n * z.length
  | 0 => by simp [repCells]
  | n + 1 => by simp only [repCells, List.length_append, repCells_length z n]; rw [Nat.add_mul]; omega

theorem rep_sound {z : List DV} {vs : Array Value} (hz : VRs ρ z vs.toList) (h0 : 0 < vs.size) : ∀ n, VRs ρ (repCells z n) ((Array.range (n * vs.size)).map fun i => vs[i % vs.size]!).toList
  | 0 => by simp [repCells]; exact .nil
  | n + 1 => by
    have e : ((Array.range ((n + 1) * vs.size)).map fun i => vs[i % vs.size]!).toList = vs.toList ++ ((Array.range (n * vs.size)).map fun i => vs[i % vs.size]!).toList := by
      apply List.ext_getElem?
      intro j
      have e1 : (n + 1) * vs.size = vs.size + n * vs.size := by rw [Nat.add_mul]; omega
      by_cases h1 : j < vs.size
      · rw [List.getElem?_append_left (by simpa using h1)]
        have h2 : j < (n + 1) * vs.size := by omega
        simp [h2, Nat.mod_eq_of_lt h1, h1]
      · rw [List.getElem?_append_right (by simpa using h1)]
        by_cases h2 : j < (n + 1) * vs.size
        · have h3 : j - vs.size < n * vs.size := by rw [e1] at h2; omega
          simp only [Array.toList_map, List.getElem?_map, Array.length_toList]
          simp [h2, h3]
          congr 1
          rw [← Nat.mod_eq_sub_mod (by omega)]
        · have h3 : ¬ j - vs.size < n * vs.size := by rw [e1] at h2; omega
          rw [List.getElem?_eq_none (by simpa using h2), List.getElem?_eq_none (by simpa using h3)]
    rw [e]
    exact hz.append (rep_sound hz h0 n)

theorem selfC_of {t : Nat} {r : List DV × Nat} (h : zeroCellsC P t = some r) : selfC P t = false := by
  unfold zeroCellsC at h
  cases hs : selfC P t with
  | false => rfl
  | true => rw [hs] at h; cases h
theorem zeroCellsC_sound {t n : Nat} {z : List DV} (h : zeroCellsC P t = some (z, n)) : ∃ d, zeroC P t = some d ∧ z = d.cells ∧ sizeC P t = some n ∧ z.length = n ∧ 0 < n := by
  have hself := selfC_of h
  unfold zeroCellsC at h
  rw [hself, cond_false] at h
  split at h
  · rename_i d m h1 h2
    cases hb : Nat.beq (len d.cells) m && Nat.ble 1 m with
    | false => rw [hb] at h; cases h
    | true =>
      rw [hb] at h; simp only [cond_true] at h; injection h with h; injection h with e1 e2; subst e1; subst e2
      simp only [Bool.and_eq_true] at hb
      have e3 := Nat.eq_of_beq_eq_true hb.1
      rw [len_eq] at e3
      exact ⟨d, h1, rfl, h2, e3, Nat.le_of_ble_eq_true hb.2⟩
  · cases h

theorem s_buildSlice (hR : R P ρ s w) {t e n k : Nat} {z : List DV} {dv : DV} {ps : List (Nat × Nat × DV)} {qs : Array (Nat × Value)} {s' : St}
    (hu : P.underlying t = some (.slice e)) (hz : zeroCellsC P e = some (z, n)) (hk : k * n ≤ 65536) (hp : PRs ρ (fun i => some (i * n, n)) ps qs.toList)
    (h : opBuildSlice s e n k z ps = some (dv, s')) : DoesV P ρ s w ((Instr.buildSlice t k qs).run P w) dv s' := by
  obtain ⟨d, h1, rfl, h3, h4, h5⟩ := zeroCellsC_sound hz
  obtain ⟨ti, v, hi, hzv, hv, hrun⟩ := zeroC_sound h1
  have hV := (ofValue_sound (ρ := ρ) v d hv).cells
  have hvs : v.cells.size = n := by have := hV.length; simp at this; omega
  unfold opBuildSlice at h
  split at h
  · rename_i m hm
    injection h with h; injection h with e1 e2; subst e1; subst e2
    have hrep := rep_sound hV (by omega) k
    rw [hvs] at hrep
    obtain ⟨cs', k1, k2, k3, k4⟩ := fill_sound hp 0 _ _ ((Array.range (k * n)).map fun i => v.cells[i % n]!) hm (by omega) (by simpa using hrep)
    have k2' : cs'.size = k * n := by rw [k2]; simp
    have hml : m.length = k * n := by have := k4.length; simp at this; omega
    have hw := new_row hR e n (cs := m) (vs := cs') (by omega) (by rw [hml, ← k2', ← Array.length_toList, List.take_length]; simpa using k4) (Alike.refl _) (fun h => absurd h (by rw [selfC_of hz]; exact Bool.false_ne_true))
    refine ⟨_, _, .slice (some ⟨w.heap.size, 0, none⟩) k k, ?_, ?_, hw⟩
    · simp only [Instr.buildSlice, Sem.run_bind, run_underlying' hu, Result.andThen_ok, run_sizeOf' h3]
      rw [if_neg (by omega)]
      simp only [Sem.run_bind, Sem.run_pure, Result.andThen_ok, Sem.run_ite]
      by_cases hkn : k * n = 0
      · have hk0 : k = 0 := by rcases Nat.mul_eq_zero.1 hkn with h | h <;> omega
        subst hk0
        simp only [Nat.zero_mul, if_true, Sem.run_pure, Result.andThen_ok] at k1 ⊢
        have e1 : ((Array.range 0).map fun i => (#[] : Array Value)[i % (#[] : Array Value).size]!) = ((Array.range 0).map fun i => v.cells[i % n]!) := by simp
        rw [e1, k1]
        simp [newRow]
      · simp only [hkn, if_false, Sem.run_bind, hrun, Result.andThen_ok, Sem.run_pure]
        rw [hvs, k1]
        simp [newRow]
    · have := VR.slice (ρ := upd ρ s.next ⟨w.heap.size, 0, cs'.size, n⟩) (b := s.next) (o := 0) (n := k) (c := k) (upd_self _ _ _) (Nat.le_refl _) (by simp [k2'])
      simpa using this
  · cases h

theorem iEq_eq (a b : Int) : iEq a b = (a == b) := by
  cases a with
  | ofNat a => cases b with
    | ofNat b =>
      show Nat.beq a b = _
      by_cases h : a = b
      · subst h; simp [Nat.beq_refl]
      · have h1 : Nat.beq a b = false := by
          cases hb : Nat.beq a b with
          | false => rfl
          | true => exact absurd (Nat.eq_of_beq_eq_true hb) h
        rw [h1]; symm; simp; omega
    | negSucc b => symm; show _ = false; simp
  | negSucc a => cases b with
    | ofNat b => symm; show _ = false; simp
    | negSucc b =>
      show Nat.beq a b = _
      by_cases h : a = b
      · subst h; simp [Nat.beq_refl]
      · have h1 : Nat.beq a b = false := by
          cases hb : Nat.beq a b with
          | false => rfl
          | true => exact absurd (Nat.eq_of_beq_eq_true hb) h
        rw [h1]; symm; simp; omega

theorem ble_eq (a b : Nat) : Nat.ble a b = decide (a ≤ b) := by
  by_cases h : a ≤ b
  · rw [Nat.ble_eq_true_of_le h]; simp [h]
  · cases hb : Nat.ble a b with
    | false => simp; omega
    | true => exact absurd (Nat.le_of_ble_eq_true hb) h
theorem iLe_eq (a b : Int) : iLe a b = decide (a ≤ b) := by
  cases a <;> cases b <;> simp only [iLe, ble_eq]
  · congr 1; simp
  · symm; simp; omega
  · symm; simp; omega
  · congr 1; simp; omega
theorem iLt_eq (a b : Int) : iLt a b = decide (a < b) := by
  cases a <;> cases b <;> simp only [iLt, ble_eq]
  · congr 1; simp; omega
  · symm; simp; omega
  · symm; simp; omega
  · congr 1; simp; omega

theorem bif_true {α : Type} {c : Bool} (h : c = true) (a b : α) : (bif c then a else b) = a := by rw [h]; rfl
theorem bif_false {α : Type} {c : Bool} (h : c = false) (a b : α) : (bif c then a else b) = b := by rw [h]; rfl
theorem wrap_pos (m : Nat) (h : m ≤ imax) : IntKind.i64.wrap (.ofNat m) = .ofNat m := by
  have e : Int.ofNat m = (m : Int) := rfl
  have h' : (m : Int) ≤ 9223372036854775807 := by have h2 : m ≤ 9223372036854775807 := h; omega
  rw [e]
  exact IntWalk.i64_in _ ⟨by omega, h'⟩
theorem wrap_neg (m : Nat) (h : m ≤ imax) : IntKind.i64.wrap (.negSucc m) = .negSucc m := by
  have e : Int.negSucc m = -((m : Int) + 1) := Int.negSucc_eq m
  have h' : (m : Int) ≤ 9223372036854775807 := by have h2 : m ≤ 9223372036854775807 := h; omega
  rw [e]
  exact IntWalk.i64_in _ ⟨by omega, by omega⟩
theorem wrapD_eq (k : IntKind) (n : Int) : wrapD k n = k.wrap n := by
  unfold wrapD
  split
  · rename_i m
    rcases Bool.eq_false_or_eq_true (Nat.ble m imax) with h | h
    · rw [bif_true h, wrap_pos m (Nat.le_of_ble_eq_true h)]
    · rw [bif_false h]
  · rename_i m
    rcases Bool.eq_false_or_eq_true (Nat.ble m imax) with h | h
    · rw [bif_true h, wrap_neg m (Nat.le_of_ble_eq_true h)]
    · rw [bif_false h]
  · rfl

theorem ikEq_eq (j k : IntKind) (h : ikEq j k = true) : j = k := by
  cases j <;> cases k <;> first | rfl | cases h

theorem nlEq_eq : ∀ (a b : List UInt8), nlEq (a.map UInt8.toNat) (b.map UInt8.toNat) = (a == b)
  | [], [] => rfl
  | [], _ :: _ => rfl
  | _ :: _, [] => rfl
  | x :: a, y :: b => by
    simp only [List.map_cons, nlEq, nlEq_eq a b]
    by_cases h : x = y
    · subst h; simp [Nat.beq_refl]
    · have h1 : Nat.beq x.toNat y.toNat = false := by
        cases hb : Nat.beq x.toNat y.toNat with
        | false => rfl
        | true => exact absurd (UInt8.toNat_inj.1 (Nat.eq_of_beq_eq_true hb)) h
      rw [h1]
      simp [h]
theorem nlLt_eq : ∀ (a b : List UInt8), nlLt (a.map UInt8.toNat) (b.map UInt8.toNat) = Op.bytesLess a b
  | [], [] => rfl
  | [], _ :: _ => rfl
  | _ :: _, [] => rfl
  | x :: a, y :: b => by
    simp only [List.map_cons, nlLt, nlLt_eq a b, Op.bytesLess, ble_eq]
    by_cases h : x < y
    · have : x.toNat + 1 ≤ y.toNat := UInt8.lt_iff_toNat_lt.1 h
      simp [h, this]
    · have h' : ¬ (x.toNat + 1 ≤ y.toNat) := fun hh => h (UInt8.lt_iff_toNat_lt.2 hh)
      simp only [h', decide_false, cond_false, h, Bool.false_or]
      by_cases e : x = y
      · subst e; simp [Nat.beq_refl]
      · have h1 : Nat.beq x.toNat y.toNat = false := by
          cases hb : Nat.beq x.toNat y.toNat with
          | false => rfl
          | true => exact absurd (UInt8.toNat_inj.1 (Nat.eq_of_beq_eq_true hb)) e
        rw [h1]
        simp [e]
end
end Go.D
namespace Go.D
open Go

section
variable {P : Program} {ρ : Mp} {s : St} {w : World}

theorem eqGuard_ok {op : BinOp} {t : TypeId} {x y : Operand} {a b : Value} (h : a = .nilIface → b = .nilIface → (isConstC x || isConstC y) = true) (h2 : ∀ c d, a = .agg c → b = .agg d → False) :
    (eqGuard op t x y a b).run P w = .ok () w := by
  unfold eqGuard
  cases a with
  | nilIface => cases b with
    | nilIface =>
      have hc := h rfl rfl
      cases op <;> cases x <;> cases y <;> first | (simp [isConstC] at hc; done) | simp
    | _ => cases op <;> simp
  | agg c => cases b with
    | agg d => exact (h2 c d rfl rfl).elim
    | _ => cases op <;> simp
  | _ => cases op <;> simp

theorem str_eq {l : List Nat} {v : Value} (h : VR ρ (.str l) v) : ∃ s : ByteArray, v = .string s ∧ l = s.data.toList.map UInt8.toNat := by
  cases h with
  | str s => exact ⟨s, rfl, rfl⟩
theorem int_eq {k : IntKind} {n : Int} {v : Value} (h : VR ρ (.int k n) v) : v = .int k n := by cases h; rfl
theorem bool_eq {b : Bool} {v : Value} (h : VR ρ (.bool b) v) : v = .bool b := by cases h; rfl

theorem map_length_str (s : ByteArray) : (s.data.toList.map UInt8.toNat).length = s.size := by rw [List.length_map]; rfl

theorem binInt_sound {op : BinOp} {k : IntKind} {a b : Int} {dv : DV} (t : TypeId) (hs : isShift op = false) (h : binInt op k a b = some dv) :
    ∃ v, (Go.binOp op t (.int k a) (.int k b)).run P w = .ok v w ∧ VR ρ dv v := by
  cases op with
  | add =>
    have h : some (DV.int k (wrapD k (a + b))) = some dv := h
    rw [wrapD_eq] at h; injection h with h; subst h
    exact ⟨_, by simp [Go.binOp, Op.intArith], .int _ _⟩
  | sub =>
    have h : some (DV.int k (wrapD k (a - b))) = some dv := h
    rw [wrapD_eq] at h; injection h with h; subst h
    exact ⟨_, by simp [Go.binOp, Op.intArith], .int _ _⟩
  | mul =>
    have h : some (DV.int k (wrapD k (a * b))) = some dv := h
    rw [wrapD_eq] at h; injection h with h; subst h
    exact ⟨_, by simp [Go.binOp, Op.intArith], .int _ _⟩
  | quo =>
    have h : (bif iEq b 0 then none else some (DV.int k (wrapD k (a.tdiv b)))) = some dv := h
    rcases Bool.eq_false_or_eq_true (iEq b 0) with h0 | h0
    · rw [bif_true h0] at h; cases h
    · rw [bif_false h0, wrapD_eq] at h; injection h with h; subst h
      rw [iEq_eq] at h0
      exact ⟨_, by simp [Go.binOp, Op.intDiv, show b ≠ 0 by simpa using h0], .int _ _⟩
  | rem =>
    have h : (bif iEq b 0 then none else some (DV.int k (a.tmod b))) = some dv := h
    rcases Bool.eq_false_or_eq_true (iEq b 0) with h0 | h0
    · rw [bif_true h0] at h; cases h
    · rw [bif_false h0] at h; injection h with h; subst h
      rw [iEq_eq] at h0
      exact ⟨_, by simp [Go.binOp, Op.intDiv, show b ≠ 0 by simpa using h0], .int _ _⟩
  | and =>
    have h : some (DV.int k (k.wrap ((BitVec.ofInt k.bits a &&& BitVec.ofInt k.bits b).toNat))) = some dv := h
    injection h with h; subst h
    exact ⟨_, by simp only [Go.binOp, ne_eq, not_true, if_false, Op.intBits, Sem.run_pure], .int _ _⟩
  | or =>
    have h : some (DV.int k (k.wrap ((BitVec.ofInt k.bits a ||| BitVec.ofInt k.bits b).toNat))) = some dv := h
    injection h with h; subst h
    exact ⟨_, by simp only [Go.binOp, ne_eq, not_true, if_false, Op.intBits, Sem.run_pure], .int _ _⟩
  | xor =>
    have h : some (DV.int k (k.wrap ((BitVec.ofInt k.bits a ^^^ BitVec.ofInt k.bits b).toNat))) = some dv := h
    injection h with h; subst h
    exact ⟨_, by simp only [Go.binOp, ne_eq, not_true, if_false, Op.intBits, Sem.run_pure], .int _ _⟩
  | andNot =>
    have h : some (DV.int k (k.wrap ((BitVec.ofInt k.bits a &&& ~~~ BitVec.ofInt k.bits b).toNat))) = some dv := h
    injection h with h; subst h
    exact ⟨_, by simp only [Go.binOp, ne_eq, not_true, if_false, Op.intBits, Sem.run_pure], .int _ _⟩
  | eql =>
    have h : some (DV.bool (iEq a b)) = some dv := h
    rw [iEq_eq] at h; injection h with h; subst h
    exact ⟨_, by simp only [Go.binOp, ne_eq, not_true, if_false, Op.intCmp, Sem.run_pure], .bool _⟩
  | neq =>
    have h : some (DV.bool (!iEq a b)) = some dv := h
    rw [iEq_eq] at h; injection h with h; subst h
    exact ⟨.bool (a != b), by simp only [Go.binOp, ne_eq, not_true, if_false, Op.intCmp, Sem.run_pure], .bool _⟩
  | lss =>
    have h : some (DV.bool (iLt a b)) = some dv := h
    rw [iLt_eq] at h; injection h with h; subst h
    exact ⟨_, by simp only [Go.binOp, ne_eq, not_true, if_false, Op.intCmp, Sem.run_pure], .bool _⟩
  | leq =>
    have h : some (DV.bool (iLe a b)) = some dv := h
    rw [iLe_eq] at h; injection h with h; subst h
    exact ⟨_, by simp only [Go.binOp, ne_eq, not_true, if_false, Op.intCmp, Sem.run_pure], .bool _⟩
  | gtr =>
    have h : some (DV.bool (iLt b a)) = some dv := h
    rw [iLt_eq] at h; injection h with h; subst h
    exact ⟨_, by simp only [Go.binOp, ne_eq, not_true, if_false, Op.intCmp, Sem.run_pure, gt_iff_lt], .bool _⟩
  | geq =>
    have h : some (DV.bool (iLe b a)) = some dv := h
    rw [iLe_eq] at h; injection h with h; subst h
    exact ⟨_, by simp only [Go.binOp, ne_eq, not_true, if_false, Op.intCmp, Sem.run_pure, ge_iff_le], .bool _⟩
  | shl => cases hs
  | shr => cases hs

theorem binShift_sound {op : BinOp} {k k' : IntKind} {a b : Int} {dv : DV} (t : TypeId) (h : binShift op k a b = some dv) :
    ∃ v, (Go.binOp op t (.int k a) (.int k' b)).run P w = .ok v w ∧ VR ρ dv v := by
  cases op with
  | shl =>
    have h : (bif iLt b 0 then none else some (DV.int k (k.wrap (a * 2 ^ (Nat.min b.toNat k.bits))))) = some dv := h
    rcases Bool.eq_false_or_eq_true (iLt b 0) with h0 | h0
    · rw [bif_true h0] at h; cases h
    · rw [bif_false h0] at h; injection h with h; subst h
      rw [iLt_eq] at h0
      have h1 : ¬ b < 0 := by simpa using h0
      exact ⟨_, by simp only [Go.binOp, Op.shift, h1, if_false, Sem.run_pure], .int _ _⟩
  | shr =>
    have h : (bif iLt b 0 then none else some (DV.int k (a.fdiv (2 ^ (Nat.min b.toNat k.bits))))) = some dv := h
    rcases Bool.eq_false_or_eq_true (iLt b 0) with h0 | h0
    · rw [bif_true h0] at h; cases h
    · rw [bif_false h0] at h; injection h with h; subst h
      rw [iLt_eq] at h0
      have h1 : ¬ b < 0 := by simpa using h0
      exact ⟨_, by simp only [Go.binOp, Op.shift, h1, if_false, Sem.run_pure], .int _ _⟩
  | _ => cases h

theorem imax_eq : (imax : Int) = IntKind.i64.max := by
  unfold imax; rfl

theorem binStr_sound {op : BinOp} {x y : ByteArray} {dv : DV} (t : TypeId) (h : binStr op (x.data.toList.map UInt8.toNat) (y.data.toList.map UInt8.toNat) = some dv) :
    ∃ v, (Go.binOp op t (.string x) (.string y)).run P w = .ok v w ∧ VR ρ dv v := by
  have hx := map_length_str x
  have hy := map_length_str y
  cases op with
  | add =>
    have h : (bif Nat.ble (len (x.data.toList.map UInt8.toNat) + len (y.data.toList.map UInt8.toNat)) imax then some (DV.str (x.data.toList.map UInt8.toNat ++ y.data.toList.map UInt8.toNat)) else none) = some dv := h
    rw [len_eq, len_eq, hx, hy] at h
    rcases Bool.eq_false_or_eq_true (Nat.ble (x.size + y.size) imax) with h0 | h0
    · rw [bif_true h0] at h; injection h with h; subst h
      have h1 : ¬ (((x.size + y.size : Nat) : Int) > IntKind.i64.max) := by
        have := Nat.le_of_ble_eq_true h0
        rw [← imax_eq]; omega
      refine ⟨.string (x ++ y), by simp only [Go.binOp, Op.stringOp, h1, if_false, Sem.run_pure], ?_⟩
      have := VR.str (ρ := ρ) (x ++ y)
      simpa using this
    · rw [bif_false h0] at h; cases h
  | eql =>
    have h : some (DV.bool (nlEq (x.data.toList.map UInt8.toNat) (y.data.toList.map UInt8.toNat))) = some dv := h
    rw [nlEq_eq] at h; injection h with h; subst h
    exact ⟨_, by simp only [Go.binOp, Op.stringOp, Sem.run_pure, ByteArray.toList_eq], .bool _⟩
  | neq =>
    have h : some (DV.bool (!nlEq (x.data.toList.map UInt8.toNat) (y.data.toList.map UInt8.toNat))) = some dv := h
    rw [nlEq_eq] at h; injection h with h; subst h
    exact ⟨_, by simp only [Go.binOp, Op.stringOp, Sem.run_pure, ByteArray.toList_eq], .bool _⟩
  | lss =>
    have h : some (DV.bool (nlLt (x.data.toList.map UInt8.toNat) (y.data.toList.map UInt8.toNat))) = some dv := h
    rw [nlLt_eq] at h; injection h with h; subst h
    exact ⟨_, by simp only [Go.binOp, Op.stringOp, Sem.run_pure, ByteArray.toList_eq], .bool _⟩
  | leq =>
    have h : some (DV.bool (nlLt (x.data.toList.map UInt8.toNat) (y.data.toList.map UInt8.toNat) || nlEq (x.data.toList.map UInt8.toNat) (y.data.toList.map UInt8.toNat))) = some dv := h
    rw [nlLt_eq, nlEq_eq] at h; injection h with h; subst h
    exact ⟨_, by simp only [Go.binOp, Op.stringOp, Sem.run_pure, ByteArray.toList_eq], .bool _⟩
  | gtr =>
    have h : some (DV.bool (!(nlLt (x.data.toList.map UInt8.toNat) (y.data.toList.map UInt8.toNat) || nlEq (x.data.toList.map UInt8.toNat) (y.data.toList.map UInt8.toNat)))) = some dv := h
    rw [nlLt_eq, nlEq_eq] at h; injection h with h; subst h
    exact ⟨_, by simp only [Go.binOp, Op.stringOp, Sem.run_pure, ByteArray.toList_eq], .bool _⟩
  | geq =>
    have h : some (DV.bool (!(nlLt (x.data.toList.map UInt8.toNat) (y.data.toList.map UInt8.toNat)))) = some dv := h
    rw [nlLt_eq] at h; injection h with h; subst h
    exact ⟨_, by simp only [Go.binOp, Op.stringOp, Sem.run_pure, ByteArray.toList_eq], .bool _⟩
  | _ => cases h

def EqT (P : Program) : Nat → TypeDesc → Prop
  | 1, .bool => True
  | 2, .pointer e => ∃ n, sizeC P e = some (n + 1)
  | 3, .slice _ => True
  | 4, .interface _ => True
  | 5, .func _ _ _ => True
  | 6, .map _ _ => True
  | _, _ => False

theorem eqTag_under {t q : Nat} (h : eqTag P t = q) (hq : q ≠ 0) : ∃ d, P.underlying t = some d ∧ EqT P q d := by
  unfold eqTag at h
  split at h
  · subst h; exact ⟨.bool, ‹_›, trivial⟩
  · rename_i e hu
    split at h
    · rename_i n hn
      subst h; exact ⟨.pointer e, hu, show ∃ n, sizeC P e = some (n + 1) from ⟨n, hn⟩⟩
    · exact absurd h.symm hq
  · rename_i e hu; subst h; exact ⟨.slice e, hu, trivial⟩
  · rename_i e hu; subst h; exact ⟨.interface e, hu, trivial⟩
  · rename_i a b c hu; subst h; exact ⟨.func a b c, hu, trivial⟩
  · rename_i a b hu; subst h; exact ⟨.map a b, hu, trivial⟩
  · exact absurd h.symm hq

theorem opEq_sound {a b : Option (Nat × Nat)} {x y : Option Addr} (hx : VR ρ (.ptr a) (.pointer x)) (hy : VR ρ (.ptr b) (.pointer y)) {r : Bool} (h : opEq a b = some r) {t e n : Nat}
    (hu : P.underlying t = some (.pointer e)) (he : sizeC P e = some (n + 1)) : (Op.equal t (.pointer x) (.pointer y)).run P w = .ok r w := by
  unfold Op.equal Op.maxDepth Op.equalIn
  cases hx with
  | ptrNil => cases hy with
    | ptrNil => simp only [opEq] at h; injection h with h; subst h; simp [run_underlying' hu]
    | ptr hb => simp only [opEq] at h; injection h with h; subst h; simp [run_underlying' hu]
  | @ptr b o z hb => cases hy with
    | ptrNil => simp only [opEq] at h; injection h with h; subst h; simp [run_underlying' hu]
    | @ptr c p z' hb' =>
      simp only [opEq] at h
      rcases Bool.eq_false_or_eq_true (Nat.beq b c) with h0 | h0
      · rw [bif_true h0] at h; injection h with h
        have hbc := Nat.eq_of_beq_eq_true h0
        subst hbc
        rw [hb] at hb'; injection hb' with hb'; subst hb'
        have hr : ((⟨z.blk, z.base + o, none⟩ : Addr) == ⟨z.blk, z.base + p, none⟩) = r := by
          rw [← h]
          by_cases hop : o = p
          · subst hop; simp [Nat.beq_refl]
          · have : Nat.beq o p = false := by
              cases hb : Nat.beq o p with
              | false => rfl
              | true => exact absurd (Nat.eq_of_beq_eq_true hb) hop
            rw [this]
            simp
            omega
        simp [run_underlying' hu, run_sizeOf' he, sameAddr, hr]
      · rw [bif_false h0] at h; cases h

theorem equal_unfold (t : TypeId) (x y : Value) : Op.equal t x y = Op.equalIn (9999 + 1) t x y := rfl

theorem eqD_sound {cst : Bool} {q t : Nat} {d : TypeDesc} {a b : DV} {a' b' : Value} {r : Bool} (hu : P.underlying t = some d) (hq : EqT P q d) (ha : VR ρ a a') (hb : VR ρ b b')
    (h : eqD cst q a b = some r) : (Op.equal t a' b').run P w = .ok r w ∧ (a' = .nilIface → b' = .nilIface → cst = true) ∧ (∀ c e, a' = .agg c → b' = .agg e → False) ∧
      (∀ k n, a' ≠ .int k n) ∧ (∀ s, a' ≠ .string s) := by
  unfold eqD at h
  split at h
  · cases ha; cases hb
    injection h with h; subst h
    cases d with
    | bool => exact ⟨by rw [equal_unfold]; unfold Op.equalIn; simp [run_underlying' hu], by simp, by simp, by simp, by simp⟩
    | _ => exact hq.elim
  · cases d with
    | pointer e =>
      have hq : ∃ n, sizeC P e = some (n + 1) := hq
      obtain ⟨n, hn⟩ := hq
      have hx : ∃ x, a' = .pointer x := by cases ha <;> exact ⟨_, rfl⟩
      have hy : ∃ y, b' = .pointer y := by cases hb <;> exact ⟨_, rfl⟩
      obtain ⟨x, rfl⟩ := hx
      obtain ⟨y, rfl⟩ := hy
      exact ⟨opEq_sound ha hb h hu hn, by simp, by simp, by simp, by simp⟩
    | _ => exact hq.elim
  · cases d with
    | slice e =>
      cases ha; cases hb
      injection h with h; subst h
      exact ⟨by rw [equal_unfold]; unfold Op.equalIn; simp [run_underlying' hu], by simp, by simp, by simp, by simp⟩
    | _ => exact hq.elim
  · cases d with
    | slice e =>
      cases ha; cases hb <;> (injection h with h; subst h; exact ⟨by rw [equal_unfold]; unfold Op.equalIn; simp [run_underlying' hu], by simp, by simp, by simp, by simp⟩)
    | _ => exact hq.elim
  · cases d with
    | slice e =>
      cases hb; cases ha <;> (injection h with h; subst h; exact ⟨by rw [equal_unfold]; unfold Op.equalIn; simp [run_underlying' hu], by simp, by simp, by simp, by simp⟩)
    | _ => exact hq.elim
  · cases d with
    | interface e =>
      cases ha; cases hb
      cases cst with
      | true => injection h with h; subst h; exact ⟨by rw [equal_unfold]; unfold Op.equalIn; simp [run_underlying' hu], by simp, by simp, by simp, by simp⟩
      | false => cases h
    | _ => exact hq.elim
  · cases d with
    | interface e =>
      cases ha; cases hb
      injection h with h; subst h
      exact ⟨by rw [equal_unfold]; unfold Op.equalIn; simp [run_underlying' hu], by simp, by simp, by simp, by simp⟩
    | _ => exact hq.elim
  · cases d with
    | interface e =>
      cases ha; cases hb
      injection h with h; subst h
      exact ⟨by rw [equal_unfold]; unfold Op.equalIn; simp [run_underlying' hu], by simp, by simp, by simp, by simp⟩
    | _ => exact hq.elim
  · cases d with
    | func _ _ _ =>
      cases ha; cases hb
      injection h with h; subst h
      exact ⟨by rw [equal_unfold]; unfold Op.equalIn; simp [run_underlying' hu], by simp, by simp, by simp, by simp⟩
    | _ => exact hq.elim
  · cases d with
    | func _ _ _ =>
      cases ha; cases hb
      injection h with h; subst h
      exact ⟨by rw [equal_unfold]; unfold Op.equalIn; simp [run_underlying' hu], by simp, by simp, by simp, by simp⟩
    | _ => exact hq.elim
  · cases d with
    | func _ _ _ =>
      cases ha; cases hb
      injection h with h; subst h
      exact ⟨by rw [equal_unfold]; unfold Op.equalIn; simp [run_underlying' hu], by simp, by simp, by simp, by simp⟩
    | _ => exact hq.elim
  · cases d with
    | map _ _ =>
      cases ha; cases hb
      injection h with h; subst h
      exact ⟨by rw [equal_unfold]; unfold Op.equalIn; simp [run_underlying' hu], by simp, by simp, by simp, by simp⟩
    | _ => exact hq.elim
  · cases d with
    | map _ _ =>
      cases ha; cases hb
      injection h with h; subst h
      exact ⟨by rw [equal_unfold]; unfold Op.equalIn; simp [run_underlying' hu], by simp, by simp, by simp, by simp⟩
    | _ => exact hq.elim
  · cases d with
    | map _ _ =>
      cases ha; cases hb
      injection h with h; subst h
      exact ⟨by rw [equal_unfold]; unfold Op.equalIn; simp [run_underlying' hu], by simp, by simp, by simp, by simp⟩
    | _ => exact hq.elim
  · cases h

theorem binOp_other {op : BinOp} {t : Nat} {a b : Value} {r : Bool} (hop : op = .eql ∨ op = .neq) (hr : (Op.equal t a b).run P w = .ok r w) (h1 : ∀ k n, a ≠ .int k n) (h2 : ∀ s, a ≠ .string s)
    (h3 : ∀ d, VR ρ d a → True) (hf : ∀ k n, a ≠ .float k n) (hc : ∀ k x y, a ≠ .complex k x y) :
    (Go.binOp op t a b).run P w = .ok (.bool (if op = .eql then r else !r)) w := by
  have _ := h3
  rcases hop with rfl | rfl
  · cases a with
    | int k n => exact absurd rfl (h1 k n)
    | string s => exact absurd rfl (h2 s)
    | float k n => exact absurd rfl (hf k n)
    | complex k x y => exact absurd rfl (hc k x y)
    | _ => simp [Go.binOp, hr]
  · cases a with
    | int k n => exact absurd rfl (h1 k n)
    | string s => exact absurd rfl (h2 s)
    | float k n => exact absurd rfl (hf k n)
    | complex k x y => exact absurd rfl (hc k x y)
    | _ => simp [Go.binOp, hr]

theorem s_bin (hR : R P ρ s w) {op : BinOp} {t : Nat} {x y : Operand} {a b dv : DV} {a' b' : Value} (ha : VR ρ a a') (hb : VR ρ b b') {s' : St}
    (h : valO s (binD op (eqTag P t) (isConstC x || isConstC y) a b) = some (dv, s')) :
    DoesV P ρ s w ((do eqGuard op t x y a' b'; Go.binOp op t a' b' : Sem Value).run P w) dv s' := by
  cases hr : binD op (eqTag P t) (isConstC x || isConstC y) a b with
  | none => rw [hr] at h; cases h
  | some v =>
    rw [hr] at h
    have h : some (v, s) = some (dv, s') := h
    injection h with h; injection h with h1 h2; subst h1; subst h2
    simp only [Sem.run_bind]
    unfold binD at hr
    split at hr
    · split at hr
      · have e1 := int_eq ha; have e2 := int_eq hb; subst e1; subst e2
        rw [eqGuard_ok (by simp) (by simp)]
        simp only [Result.andThen_ok]
        rename_i _ _ k n k' m
        rcases Bool.eq_false_or_eq_true (isShift op) with h0 | h0
        · rw [bif_true h0] at hr
          obtain ⟨v', q1, q2⟩ := binShift_sound (P := P) (ρ := ρ) (w := w) (k' := k') t hr
          rw [q1]; exact DoesV.same hR q2
        · rw [bif_false h0] at hr
          rcases Bool.eq_false_or_eq_true (ikEq k k') with h1 | h1
          · rw [bif_true h1] at hr
            have := ikEq_eq _ _ h1; subst this
            obtain ⟨v', q1, q2⟩ := binInt_sound (P := P) (ρ := ρ) (w := w) t h0 hr
            rw [q1]; exact DoesV.same hR q2
          · rw [bif_false h1] at hr; cases hr
      · obtain ⟨p, rfl, rfl⟩ := str_eq ha
        obtain ⟨q, rfl, rfl⟩ := str_eq hb
        rw [eqGuard_ok (by simp) (by simp)]
        simp only [Result.andThen_ok]
        obtain ⟨v', q1, q2⟩ := binStr_sound (P := P) (ρ := ρ) (w := w) t hr
        rw [q1]; exact DoesV.same hR q2
      · cases hr
    · rename_i q hq0
      obtain ⟨d, hu, hq⟩ := eqTag_under rfl hq0
      unfold binOther at hr
      have hfl : ∀ k n, a' ≠ .float k n := by intro k n e; subst e; cases ha
      have hcx : ∀ k n m, a' ≠ .complex k n m := by intro k n m e; subst e; cases ha
      split at hr
      · split at hr
        · rename_i r hr'
          injection hr with hr; subst hr
          obtain ⟨k1, k2, k3, k4, k5⟩ := eqD_sound (w := w) hu hq ha hb hr'
          rw [eqGuard_ok (fun e1 e2 => k2 e1 e2) k3]
          simp only [Result.andThen_ok]
          rw [binOp_other (ρ := ρ) (.inl rfl) k1 k4 k5 (fun _ _ => trivial) hfl hcx]
          exact DoesV.same hR (.bool _)
        · cases hr
      · split at hr
        · rename_i r hr'
          injection hr with hr; subst hr
          obtain ⟨k1, k2, k3, k4, k5⟩ := eqD_sound (w := w) hu hq ha hb hr'
          rw [eqGuard_ok (fun e1 e2 => k2 e1 e2) k3]
          simp only [Result.andThen_ok]
          rw [binOp_other (ρ := ρ) (.inr rfl) k1 k4 k5 (fun _ _ => trivial) hfl hcx]
          exact DoesV.same hR (.bool _)
        · cases hr
      · cases hr
end
end Go.D
namespace Go.D
open Go

section
variable {P : Program} {ρ : Mp} {s : St} {w : World}

theorem natIn_eq {d : DV} {v : Value} {hi n : Nat} (hv : VR ρ d v) (h : natIn d hi = some n) : ∃ k, v = .int k n ∧ n ≤ hi := by
  unfold natIn at h
  split at h
  · rename_i k m
    have := int_eq hv; subst this
    rcases Bool.eq_false_or_eq_true (Nat.ble m hi) with h0 | h0
    · rw [bif_true h0] at h; injection h with h; subst h
      exact ⟨k, rfl, Nat.le_of_ble_eq_true h0⟩
    · rw [bif_false h0] at h; cases h
  · cases h

theorem s_un (hR : R P ρ s w) {op : UnOp} {a dv : DV} {a' : Value} {s' : St} (ha : VR ρ a a') (h : valO s (unD op a) = some (dv, s')) : DoesV P ρ s w ((Op.unary op a').run P w) dv s' := by
  cases hr : unD op a with
  | none => rw [hr] at h; cases h
  | some v =>
    rw [hr] at h
    have h : some (v, s) = some (dv, s') := h
    injection h with h; injection h with h1 h2; subst h1; subst h2
    unfold unD at hr
    split at hr
    · have := int_eq ha; subst this
      rw [wrapD_eq] at hr; injection hr with hr; subst hr
      simp only [Op.unary, Op.intArith, Sem.run_pure]
      exact DoesV.same hR (.int _ _)
    · have := int_eq ha; subst this
      injection hr with hr; subst hr
      simp only [Op.unary, Op.intBits, Sem.run_pure]
      exact DoesV.same hR (.int _ _)
    · have := bool_eq ha; subst this
      injection hr with hr; subst hr
      simp only [Op.unary, Sem.run_pure]
      exact DoesV.same hR (.bool _)
    · cases hr

theorem s_convInt (hR : R P ρ s w) {src dst : Nat} {k j : IntKind} {a dv : DV} {a' : Value} {s' : St} (hs : P.underlying src = some (.int j)) (hd : P.underlying dst = some (.int k)) (ha : VR ρ a a')
    (h : opConvInt s k a = some (dv, s')) : DoesV P ρ s w ((Go.convert src dst a').run P w) dv s' := by
  unfold opConvInt at h
  split at h
  · have := int_eq ha; subst this
    rw [wrapD_eq] at h; injection h with h; injection h with h1 h2; subst h1; subst h2
    simp only [Go.convert, Sem.run_bind, run_underlying' hs, run_underlying' hd, Result.andThen_ok, Conv.intToInt, Sem.run_pure]
    exact DoesV.same hR (.int _ _)
  · cases h

theorem s_convChr (hR : R P ρ s w) {src dst : Nat} {j : IntKind} {a dv : DV} {a' : Value} {s' : St} (hs : P.underlying src = some (.int j)) (hd : P.underlying dst = some .string) (ha : VR ρ a a')
    (h : opConvChr s a = some (dv, s')) : DoesV P ρ s w ((Go.convert src dst a').run P w) dv s' := by
  unfold opConvChr at h
  split at h
  · have := int_eq ha; subst this
    injection h with h; injection h with h1 h2; subst h1; subst h2
    simp only [Go.convert, Sem.run_bind, run_underlying' hs, run_underlying' hd, Result.andThen_ok, Conv.intToString, Sem.run_pure]
    exact DoesV.same hR (.str _)
  · cases h

theorem s_convStr (hR : R P ρ s w) {src dst : Nat} {a : DV} {a' : Value} (hs : P.underlying src = some .string) (hd : P.underlying dst = some .string) (ha : VR ρ a a') (hstr : ∃ l, a = .str l) :
    DoesV P ρ s w ((Go.convert src dst a').run P w) a s := by
  obtain ⟨l, rfl⟩ := hstr
  obtain ⟨p, rfl, rfl⟩ := str_eq ha
  simp only [Go.convert, Sem.run_bind, run_underlying' hs, run_underlying' hd, Result.andThen_ok, Sem.run_pure]
  exact DoesV.same hR (.str _)

theorem s_nilCheck (hR : R P ρ s w) {a dv : DV} {a' : Value} {s' : St} (ha : VR ρ a a') (h : opNilCheck s a = some (dv, s')) : s' = s ∧ VR ρ dv a' ∧ (∃ p, a' = .pointer (some p)) ∨ s' = s ∧ VR ρ dv a' ∧ ∃ f x y, a' = .func (.func f) x y := by
  have _ := hR
  unfold opNilCheck at h
  split at h
  · injection h with h; injection h with h1 h2; subst h1; subst h2
    left
    cases ha with
    | ptr hb => exact ⟨rfl, .ptr hb, _, rfl⟩
  · injection h with h; injection h with h1 h2; subst h1; subst h2
    right
    cases ha with
    | func fn hx hy => exact ⟨rfl, .func _ hx hy, _, _, _, rfl⟩
  · cases h

theorem s_offset (hR : R P ρ s w) {t i n : Nat} {f : Field} {a dv : DV} {a' : Value} {s' : St} (hf : fieldOf P t i = some f) (hn : sizeC P f.type = some (n + 1)) (ha : VR ρ a a')
    (h : opOffset s f.offset a = some (dv, s')) : DoesV P ρ s w ((Instr.fieldAt t a' i).run P w) dv s' := by
  unfold fieldOf at hf
  split at hf
  · rename_i fs hu
    unfold opOffset at h
    split at h
    · rename_i b o
      injection h with h; injection h with h1 h2; subst h1; subst h2
      cases ha with
      | @ptr _ _ x hb =>
        simp only [Instr.fieldAt, Sem.run_bind, run_underlying' hu, Result.andThen_ok, hf, Instr.sureAddr, Sem.run_pure, fieldPlace, run_sizeOf' hn]
        rw [if_neg (by omega)]
        simp only [Sem.run_pure, Result.andThen_ok, add_eq, Nat.add_assoc]
        exact DoesV.same hR (.ptr hb)
    · cases h
  · cases hf

theorem part_sound (hR : R P ρ s w) {t n off : Nat} {g : Bool} {l : List DV} {cs : Array Value} {dv : DV} {s' : St} (hg : isAggC P t = some g) (hn : sizeC P t = some n) (hV : VRs ρ l cs.toList)
    (h : valO s (partD g n l off) = some (dv, s')) : DoesV P ρ s w ((part t cs off).run P w) dv s' := by
  cases hp : partD g n l off with
  | none => rw [hp] at h; cases h
  | some v =>
    rw [hp] at h
    have h : some (v, s) = some (dv, s') := h
    injection h with h; injection h with h1 h2; subst h1; subst h2
    simp only [part, Sem.run_bind, run_isAgg' hg, Result.andThen_ok]
    unfold partD at hp
    cases g with
    | true =>
      simp only [if_true, Sem.run_bind, run_sizeOf' hn, Result.andThen_ok, Sem.run_pure]
      cases hgr : grab l off n with
      | none => rw [hgr] at hp; cases hp
      | some m =>
        rw [hgr] at hp; injection hp with hp; subst hp
        obtain ⟨q1, rfl⟩ := grab_eq _ _ _ _ hgr
        refine DoesV.same hR (.agg ?_)
        have := (hV.drop off).take n
        rw [Array.toList_extract, List.extract_eq_take_drop, Nat.add_sub_cancel_left]
        exact this
    | false =>
      simp only [Bool.false_eq_true, if_false]
      obtain ⟨v', q1, q2⟩ := hV.get off v hp
      have : cs[off]? = some v' := by simpa using q1
      rw [this]
      exact DoesV.same hR q2

theorem s_field (hR : R P ρ s w) {t i n : Nat} {g : Bool} {f : Field} {a dv : DV} {a' : Value} {s' : St} (hf : fieldOf P t i = some f) (hg : isAggC P f.type = some g) (hn : sizeC P f.type = some n) (ha : VR ρ a a')
    (h : opField s g f.offset n a = some (dv, s')) : DoesV P ρ s w ((Instr.field t a' i).run P w) dv s' := by
  unfold fieldOf at hf
  split at hf
  · rename_i fs hu
    unfold opField at h
    split at h
    · cases ha with
      | agg hV =>
        simp only [Instr.field, Sem.run_bind, run_underlying' hu, Result.andThen_ok, hf, asAgg, Sem.run_pure]
        exact part_sound hR hg hn hV h
    · cases h
  · cases hf

theorem s_indexSl (hR : R P ρ s w) {t e n : Nat} {a i dv : DV} {a' i' : Value} {s' : St} (hu : P.underlying t = some (.slice e)) (hn : sizeC P e = some n) (ha : VR ρ a a') (hi : VR ρ i i')
    (h : opIndexSl s n a i = some (dv, s')) : DoesV P ρ s w ((Instr.indexAt t a' i').run P w) dv s' := by
  unfold opIndexSl at h
  split at h
  · rename_i b o m
    split at h
    · rename_i k hk
      rcases Bool.eq_false_or_eq_true (Nat.ble (Nat.succ k) m) with h0 | h0
      · rw [bif_true h0] at h; injection h with h; injection h with h1 h2; subst h1; subst h2
        have hlt : k < m := Nat.le_of_ble_eq_true h0
        obtain ⟨kk, rfl, _⟩ := natIn_eq hi hk
        cases ha with
        | @slice _ _ _ c x hb hle hc =>
          have hcond : (0 : Int) ≤ (k : Int) ∧ (k : Int) < (m : Int) := by omega
          simp only [Instr.indexAt, Sem.run_bind, asIntOf, Sem.run_pure, Result.andThen_ok, run_underlying' hu, hcond, and_self, if_true, run_sizeOf' hn, Int.toNat_natCast, add_eq, Nat.add_assoc]
          exact DoesV.same hR (.ptr hb)
        | sliceEmpty _ _ => omega
      · rw [bif_false h0] at h; cases h
    · cases h
  · cases h

theorem s_indexArr (hR : R P ρ s w) {t e n m : Nat} {a i dv : DV} {a' i' : Value} {s' : St} (hu : P.underlying t = some (.array m e)) (hn : sizeC P e = some n) (ha : VR ρ a a') (hi : VR ρ i i')
    (h : opIndexArr s m n a i = some (dv, s')) : DoesV P ρ s w ((Instr.indexAt t a' i').run P w) dv s' := by
  unfold opIndexArr at h
  split at h
  · rename_i b o
    split at h
    · rename_i k hk
      rcases Bool.eq_false_or_eq_true (Nat.ble (Nat.succ k) m) with h0 | h0
      · rw [bif_true h0] at h; injection h with h; injection h with h1 h2; subst h1; subst h2
        have hlt : k < m := Nat.le_of_ble_eq_true h0
        obtain ⟨kk, rfl, _⟩ := natIn_eq hi hk
        cases ha with
        | @ptr _ _ x hb =>
          have hcond : (0 : Int) ≤ (k : Int) ∧ (k : Int) < (m : Int) := by omega
          simp only [Instr.indexAt, Sem.run_bind, asIntOf, Sem.run_pure, Result.andThen_ok, run_underlying' hu, Instr.sureAddr, hcond, and_self, if_true, run_sizeOf' hn, Int.toNat_natCast, add_eq, Nat.add_assoc]
          exact DoesV.same hR (.ptr hb)
      · rw [bif_false h0] at h; cases h
    · cases h
  · cases h

theorem s_indexStr (hR : R P ρ s w) {t : Nat} {a i dv : DV} {a' i' : Value} {s' : St} (hu : P.underlying t = some .string) (ha : VR ρ a a') (hi : VR ρ i i')
    (h : opIndexStr s a i = some (dv, s')) : DoesV P ρ s w ((Instr.index t a' i').run P w) dv s' := by
  unfold opIndexStr at h
  split at h
  · obtain ⟨p, rfl, rfl⟩ := str_eq ha
    split at h
    · rename_i k hk
      obtain ⟨kk, rfl, _⟩ := natIn_eq hi hk
      split at h
      · rename_i c hc
        injection h with h; injection h with h1 h2; subst h1; subst h2
        rw [List.getElem?_map] at hc
        cases hb : p.data.toList[k]? with
        | none => rw [hb] at hc; cases hc
        | some u =>
          rw [hb] at hc
          have hc : some u.toNat = some c := hc
          injection hc with hc; subst hc
          have hp : p[k]? = some u := by
            have : p.data[k]? = some u := by simpa using hb
            rw [← this]
            rfl
          have h0 : (0 : Int) ≤ (k : Int) := by omega
          simp only [Instr.index, Sem.run_bind, asIntOf, Sem.run_pure, Result.andThen_ok, run_underlying' hu, h0, if_true, Int.toNat_natCast, hp]
          exact DoesV.same hR (.int _ _)
      · cases h
    · cases h
  · cases h

theorem s_indexAgg (hR : R P ρ s w) {t e n m : Nat} {g : Bool} {a i dv : DV} {a' i' : Value} {s' : St} (hu : P.underlying t = some (.array m e)) (hg : isAggC P e = some g) (hn : sizeC P e = some n) (ha : VR ρ a a') (hi : VR ρ i i')
    (h : opIndexAgg s m g n a i = some (dv, s')) : DoesV P ρ s w ((Instr.index t a' i').run P w) dv s' := by
  unfold opIndexAgg at h
  split at h
  · cases ha with
    | agg hV =>
      split at h
      · rename_i k hk
        rcases Bool.eq_false_or_eq_true (Nat.ble (Nat.succ k) m) with h0 | h0
        · rw [bif_true h0] at h
          have hlt : k < m := Nat.le_of_ble_eq_true h0
          obtain ⟨kk, rfl, _⟩ := natIn_eq hi hk
          have hcond : (0 : Int) ≤ (k : Int) ∧ (k : Int) < (m : Int) := by omega
          simp only [Instr.index, Sem.run_bind, asIntOf, Sem.run_pure, Result.andThen_ok, run_underlying' hu, hcond, and_self, if_true, run_sizeOf' hn, Int.toNat_natCast]
          exact part_sound hR hg hn hV h
        · rw [bif_false h0] at h; cases h
      · cases h
  · cases h

theorem s_extract (hR : R P ρ s w) {i : Nat} {a dv : DV} {a' : Value} {s' : St} (ha : VR ρ a a') (h : opExtract s a i = some (dv, s')) : DoesV P ρ s w ((Instr.extract a' i).run P w) dv s' := by
  unfold opExtract at h
  split at h
  · rename_i l
    cases ha with
    | @tuple _ cs hV =>
      cases hg : l[i]? with
      | none => rw [hg] at h; cases h
      | some v =>
        rw [hg] at h
        have h : some (v, s) = some (dv, s') := h
        injection h with h; injection h with h1 h2; subst h1; subst h2
        obtain ⟨v', q1, q2⟩ := hV.get i v hg
        have : cs[i]? = some v' := by simpa using q1
        simp only [Instr.extract, this, Sem.run_pure]
        exact DoesV.same hR q2
  · cases h

/-- bounds that may be left out -/
inductive VRo (ρ : Mp) : Option DV → Option Value → Prop where
  | none : VRo ρ none none
  | some {d : DV} {v : Value} (h : VR ρ d v) : VRo ρ (some d) (some v)

theorem sliceBounds_sound {q : Bool} {ln cap h b : Nat} {lo hi : Option DV} {lo' hi' : Option Value} (hlo : VRo ρ lo lo') (hhi : VRo ρ hi hi') {top : Nat} (htop : top ≤ cap)
    (h1 : boundD hi top ln = some h) (h2 : boundD lo h 0 = some b) : (Instr.sliceBounds q ln cap lo' hi' none).run P w = .ok (b, h, cap) w ∧ b ≤ h ∧ (h ≤ top ∨ h = ln) := by
  have hh : ((match hi', (none : Option Value) with
      | some v, some _ => Instr.sliceBound v cap .slice3B
      | some v, none => Instr.sliceBound v cap (if q then .sliceAcap else .sliceAlen)
      | none, none => pure ln
      | none, some _ => stuck "Slice: max without high") : Sem Nat).run P w = .ok h w ∧ (h ≤ top ∨ h = ln) := by
    cases hhi with
    | none => simp only [boundD] at h1; injection h1 with h1; subst h1; exact ⟨rfl, .inr rfl⟩
    | some hv =>
      simp only [boundD] at h1
      obtain ⟨k, rfl, hle⟩ := natIn_eq hv h1
      refine ⟨?_, .inl hle⟩
      have := run_sliceBound (P := P) (w := w) k (h : Int) cap (if q then .sliceAcap else .sliceAlen) (by omega) (by omega)
      simpa using this
  have hl : ((match lo' with
      | some v => Instr.sliceBound v h .sliceB
      | none => pure 0) : Sem Nat).run P w = .ok b w ∧ b ≤ h := by
    cases hlo with
    | none => simp only [boundD] at h2; injection h2 with h2; subst h2; exact ⟨rfl, Nat.zero_le _⟩
    | some hv =>
      simp only [boundD] at h2
      obtain ⟨k, rfl, hle⟩ := natIn_eq hv h2
      refine ⟨?_, hle⟩
      have := run_sliceBound (P := P) (w := w) k (b : Int) h .sliceB (by omega) (by omega)
      simpa using this
  refine ⟨?_, hl.2, hh.2⟩
  simp only [Instr.sliceBounds, Sem.run_bind, Sem.run_pure, Result.andThen_ok, Option.isSome_none, Bool.false_eq_true, if_false]
  have e1 := hh.1
  have e2 := hl.1
  cases hi' <;> cases lo' <;> simp_all

theorem s_sliceStr (hR : R P ρ s w) {t : Nat} {a dv : DV} {a' : Value} {lo hi : Option DV} {lo' hi' : Option Value} {s' : St} (hu : P.underlying t = some .string) (ha : VR ρ a a') (hlo : VRo ρ lo lo') (hhi : VRo ρ hi hi')
    (h : opSliceStr s a lo hi = some (dv, s')) : DoesV P ρ s w ((Instr.sliceAt t a' lo' hi' none).run P w) dv s' := by
  unfold opSliceStr at h
  split at h
  · obtain ⟨p, rfl, rfl⟩ := str_eq ha
    rw [len_eq, map_length_str] at h
    split at h
    · rename_i hh h1
      split at h
      · rename_i b h2
        injection h with h; injection h with e1 e2; subst e1; subst e2
        obtain ⟨q1, q2, q3⟩ := sliceBounds_sound (P := P) (w := w) (q := false) (cap := p.size) hlo hhi (Nat.le_refl _) h1 h2
        have hhs : hh ≤ p.size := by omega
        simp only [Instr.sliceAt, Sem.run_bind, run_underlying' hu, Result.andThen_ok, Instr.slice, Option.isSome_none, Bool.false_eq_true, if_false, q1, Sem.run_pure]
        refine DoesV.same hR ?_
        have := VR.str (ρ := ρ) (p.extract b hh)
        have e : (p.extract b hh).data.toList.map UInt8.toNat = cut (p.data.toList.map UInt8.toNat) b (hh - b) := by
          unfold cut
          rw [ByteArray.data_extract, Array.toList_extract, List.extract_eq_take_drop, List.map_take, List.map_drop]
        rw [e] at this
        exact this
      · cases h
    · cases h
  · cases h
end
end Go.D
