/-
  A statement whose order is drawn is sound (2); calls are sound.
-/
import Derived.Test.YtbecblfbikahkaaGreatDoorDf
set_option linter.all false
set_option linter.deprecated false
namespace Go.D
open Go

def cnt (L : Array Bool) : Nat := L.toList.countP fun b => !b

theorem cnt_set {L : Array Bool} {i : Nat} (hi : i < L.size) (hu : L.getD i false = false) : cnt (L.setIfInBounds i true) + 1 = cnt L := by
  unfold cnt
  rw [Array.toList_setIfInBounds]
  rw [Array.getD_eq_getD_getElem?, Array.getElem?_eq_getElem hi] at hu
  have hu : L[i] = false := hu
  have hi' : i < L.toList.length := by simpa using hi
  have hget : L.toList[i] = false := by simpa using hu
  rw [List.countP_set hi']
  simp only [hget, Bool.not_false, if_true, Bool.not_true, Bool.false_eq_true, if_false, Nat.add_zero]
  have : 0 < L.toList.countP fun b => !b := List.countP_pos_iff.2 ⟨L.toList[i], List.getElem_mem _, by rw [hget]; rfl⟩
  omega

theorem cnt_zero {L : Array Bool} (h : cnt L = 0) {i : Nat} (hi : i < L.size) : L.getD i false = true := by
  unfold cnt at h
  rw [List.countP_eq_zero] at h
  have := h L[i] (by simp)
  rw [Array.getD_eq_getD_getElem?, Array.getElem?_eq_getElem hi]
  simpa using this

section
variable {F : List Nat} {P : Program} {p : Plan} {ops : Array Oper} {ρ0 ρ : Mp} {s0 s : St} {w0 w : World} {a0 a : Act} {k : Nat} {L : Array Bool} {e ee : Env} {bl : Nat → Option Nat}

theorem all_of_ready (hS : Static p ops) (hsz : L.size = p.n) (hr : Region.ready .any ops L = []) : ∀ i, i < p.n → L.getD i false = true := by
  intro i
  induction i using Nat.strongRecOn with
  | _ i ih =>
    intro hi
    cases hl : L.getD i false with
    | true => rfl
    | false =>
      obtain ⟨o, ho, h1, _⟩ := hS.edges i hi
      have : i ∈ Region.ready .any ops L := by
        refine mem_ready.2 ⟨?_, o, ho, fun ed he hb => ?_⟩
        · have hil : i < L.size := by rw [hsz]; exact hi
          rw [Array.getD_eq_getD_getElem?, Array.getElem?_eq_getElem hil] at hl ⊢
          exact hl
        · have := h1 ed he hb
          exact ih ed.on this (by omega)
      rw [hr] at this; cases this

theorem Inv.finish {call : Caller} (I : Inv F P p ρ0 s0 w0 a0 k L e s a w ρ bl ee) (hP : PlanOf P p ops) (hall : ∀ i, i < p.n → L.getD i false = true) {x : Ex} {e' : Env} {s' : St}
    (hrun : runOps call (restC p k (p.hs.drop k)) e s = some (x, e', s')) : Post F P ρ0 s0 w0 a0 x e' s' .normal a w := by
  have hk : p.hs.length ≤ k := by
    rcases Nat.lt_or_ge k p.hs.length with h | h
    · have h1 := List.getElem?_eq_getElem h
      have := (I.hs k _ h1).1 (hall _ (hP.inN _ (List.getElem_mem h)).1)
      omega
    · exact h
  rw [List.drop_eq_nil_of_le hk] at hrun
  simp only [restC, runOps] at hrun
  injection hrun with hrun; injection hrun with h1 h2; injection h2 with h2 h3; subst h1; subst h2; subst h3
  refine ⟨ρ, I.went, ?_, I.kept, trivial⟩
  intro t
  have := I.env t
  rw [I.same t (fun i hi _ hu => by rw [hall i hi] at hu; cases hu)] at this
  exact this

theorem op1_eq {h : Nat} {d : DOper} (hd : p.ds[h]? = some d) : p.op1 h = [d] := by simp [Plan.op1, hd]

/-- one of the chain, by D and by the model -/
theorem Inv.step_heavy {call : Caller} (hcall : CallOk P call) (hS : Static p ops) (hP : PlanOf P p ops) (I : Inv F P p ρ0 s0 w0 a0 k L e s a w ρ bl ee) (hR0 : R P ρ0 s0 w0) {h : Nat} (hi : h ∈ Region.ready .any ops L) (hk : p.hs[k]? = some h)
    (hin : ∀ o ∈ ops.toList, dstIn F a0.tmps.size o.dst = true) {x : Ex} {e' : Env} {s' : St} {r : List Nat}
    (hrun : runOps call (p.op1 h ++ (p.samesOf (p.checkIx (k + 1)) ++ p.code (k + 1) r)) e s = some (x, e', s')) {K : Act → World → Prop} {Q : Exit → Act → World → Prop}
    (hK : ∀ e3 s3 a' w' ρ' bl' ee', runOps call (restC p (k + 1) r) e3 s3 = some (x, e', s') → Inv F P p ρ0 s0 w0 a0 (k + 1) (L.setIfInBounds h true) e3 s3 a' w' ρ' bl' ee' → K a' w')
    (hQ : ∀ ex a' w', Post F P ρ0 s0 w0 a0 x e' s' ex a' w' → Q ex a' w') : wpOp P ops Q h K a w := by
  obtain ⟨_, o, ho, _⟩ := mem_ready.1 hi
  obtain ⟨d, g, hd, hc, hg, _, _⟩ := hP.op h o ho
  have hag := I.agree hS hi
  rw [readsAt_eq hd] at hag
  have hR := I.went.rel
  have hdi : dstIn F a.tmps.size o.dst = true := by rw [I.kept.size]; exact hin o (by simpa using Array.mem_of_getElem? ho)
  rw [op1_eq hd] at hrun
  simp only [List.singleton_append, runOps] at hrun
  unfold wpOp
  rw [ho]
  simp only
  rw [guard_sound I.env hg, ← readsO_guard hag]
  split at hrun
  · rename_i hgt
    rw [if_pos hgt]
    refine .inl ?_
    rw [doOp_val (opC_real hc)] at hrun
    cases hv : valOp call d e s with
    | none => rw [hv] at hrun; cases hrun
    | some q =>
      obtain ⟨out, s1⟩ := q
      rw [hv] at hrun
      have hv' : valOp call d ee s = some (out, s1) := by rw [← valOp_congr (readsO_op hag)]; exact hv
      refine val_sound hcall hR I.env hc hv' ?_ ?_
      · intro dv v ρ1 w1 hout hvr hw
        subst hout
        obtain ⟨e3, s3, bl3, h1, h2⟩ := I.after hS hP hR0 hi hk hd hdi hvr hw hrun
        exact hK _ _ _ _ _ _ _ h1 h2
      · intro dv v ρ1 w1 hout hvr hw
        subst hout
        simp only [afterCall] at hrun
        injection hrun with hrun; injection hrun with h1 h2; injection h2 with h2 h3; subst h1; subst h2; subst h3
        exact hQ _ _ _ ⟨ρ1, Went.trans hR0 I.went hw, trivial, I.kept, v, hvr, rfl⟩
  · rename_i hgt
    rw [if_neg (by rw [hgt]; simp)]
    obtain ⟨e3, s3, bl3, h1, h2⟩ := I.after hS hP hR0 hi hk hd hdi (dv := undefD) (v := undef) undefR (Went.refl hR) hrun
    exact hK _ _ _ _ _ _ _ h1 h2

theorem chain_sound {call : Caller} (hcall : CallOk P call) (hS : Static p ops) (hP : PlanOf P p ops) (hR0 : R P ρ0 s0 w0) (hin : ∀ o ∈ ops.toList, dstIn F a0.tmps.size o.dst = true) {k0 : Nat}
    (hchain : ∀ j h h', k0 ≤ j → p.hs[j]? = some h → p.hs[j + 1]? = some h' → p.bef h' h = true) (hask : ∀ k, k0 ≤ k → p.askAt (p.hs.drop (k + 1)) = []) {x : Ex} {e' : Env} {s' : St} {Q : Exit → Act → World → Prop} (hQ : ∀ ex a' w', Post F P ρ0 s0 w0 a0 x e' s' ex a' w' → Q ex a' w') :
    ∀ (fuel k : Nat) (L : Array Bool) (e : Env) (s : St) (a : Act) (w : World) (ρ : Mp) (bl : Nat → Option Nat) (ee : Env), k0 ≤ k → Inv F P p ρ0 s0 w0 a0 k L e s a w ρ bl ee → cnt L = fuel →
      runOps call (restC p k (p.hs.drop k)) e s = some (x, e', s') → wpAny P .any ops Q fuel L a w := by
  intro fuel
  induction fuel with
  | zero =>
    intro k L e s a w ρ bl ee hk0 I hc hrun
    have hall : ∀ i, i < p.n → L.getD i false = true := fun i hi => cnt_zero hc (by rw [I.sz]; exact hi)
    refine ⟨?_, hQ _ _ _ (I.finish hP hall hrun)⟩
    cases hr : Region.ready .any ops L with
    | nil => rfl
    | cons i l =>
      have hi : i ∈ Region.ready .any ops L := by rw [hr]; simp
      obtain ⟨h1, h2, _⟩ := I.ready hS hi
      rw [hall i h1] at h2; cases h2
  | succ fuel ih =>
    intro k L e s a w ρ bl ee hk0 I hc hrun
    refine ⟨fun hr => hQ _ _ _ (I.finish hP (all_of_ready hS I.sz hr) hrun), ?_⟩
    intro i hi
    obtain ⟨hin', hun, hbef⟩ := I.ready hS hi
    have hc' : cnt (L.setIfInBounds i true) = fuel := by
      have := cnt_set (by rw [I.sz]; exact hin') hun
      omega
    cases hh : p.heavy i with
    | false =>
      refine I.step_light hS hP hR0 hi hh hin ?_
      intro a' w' ρ' bl' ee' I'
      exact ih k _ e s a' w' ρ' bl' ee' hk0 I' hc' hrun
    | true =>
      obtain ⟨j, hj, hji⟩ := List.getElem_of_mem (hP.all i hin' hh)
      have hj' : p.hs[j]? = some i := by rw [List.getElem?_eq_getElem hj, hji]
      have hjk : k ≤ j := by
        rcases Nat.lt_or_ge j k with h | h
        · have := (I.hs j i hj').2 h
          rw [hun] at this; cases this
        · exact h
      have hjk' : j = k := by
        rcases Nat.lt_or_ge k j with h | h
        · exfalso
          obtain ⟨q, rfl⟩ : ∃ q, j = q + 1 := ⟨j - 1, by omega⟩
          have hq : q < p.hs.length := by omega
          have hq' := List.getElem?_eq_getElem hq
          have hb := hchain q _ i (by omega) hq' hj'
          have := hbef _ (hP.inN _ (List.getElem_mem hq)).1 hb
          have := (I.hs q _ hq').1 this
          omega
        · omega
      subst hjk'
      rw [List.drop_eq_getElem_cons hj, hji] at hrun
      simp only [restC, hask j hk0, List.nil_append] at hrun
      refine I.step_heavy hcall hS hP hR0 hi hj' hin hrun ?_ hQ
      intro e3 s3 a' w' ρ' bl' ee' hr I'
      exact ih (j + 1) _ e3 s3 a' w' ρ' bl' ee' (by omega) I' hc' hr
end
end Go.D
namespace Go.D
open Go

section
variable {P : Program} {ops : Array Oper}

theorem opersC_get : ∀ {os : List Oper} {ds : List DOper}, opersC P ops os = some ds → os.length = ds.length ∧ ∀ (i : Nat) (o : Oper), os[i]? = some o → ∃ (d : DOp) (g : Option (Nat × Bool)), ds[i]? = some (⟨o.dst, d, g⟩ : DOper) ∧ opC P o = some d ∧ guardC ops o.guard = some g ∧ (kindsC os ds)[i]? = some (kdO o d)
  | [], ds, h => by
    simp only [opersC] at h; injection h with h; subst h
    exact ⟨rfl, fun i o ho => by simp at ho⟩
  | o :: os, ds, h => by
    obtain ⟨d, g, l, rfl, h1, h2, h3⟩ := opersC_cons h
    obtain ⟨k1, k2⟩ := opersC_get h3
    refine ⟨by simp [k1], fun i o' ho => ?_⟩
    cases i with
    | zero =>
      simp at ho; subst ho
      exact ⟨d, g, by simp, h1, h2, by simp [kindsC]⟩
    | succ i =>
      simp at ho
      obtain ⟨d', g', q1, q2, q3, q4⟩ := k2 i o' ho
      exact ⟨d', g', by simpa using q1, q2, q3, by simpa [kindsC] using q4⟩

theorem planOf {p : Plan} (h : planC P ops = some p) : PlanOf P p ops ∧ p.ask = [] := by
  unfold planC at h
  split at h
  · rename_i ds hds
    injection h with h; subst h
    obtain ⟨h1, h2⟩ := opersC_get hds
    refine ⟨⟨?_, ?_, ?_, ?_⟩, rfl⟩
    · intro i o ho
      obtain ⟨d, g, q1, q2, q3, q4⟩ := h2 i o (by simpa using ho)
      have hkd : (kindsC ops.toList ds).getD i 3 = kdO o d := by rw [List.getD_eq_getElem?_getD, q4]; rfl
      have hko : Nat.beq (kdO o d) 3 = false → kdO o d = kdD d := by
        intro hh
        unfold kdO at hh ⊢
        split at hh
        · cases hh
        · rfl
      refine ⟨d, g, q1, q2, q3, ?_, ?_⟩
      · intro hh
        unfold Plan.heavy at hh
        simp only [hkd] at hh
        intro h3
        rw [hko hh, h3] at hh; cases hh
      · intro hh
        unfold Plan.heavy at hh
        unfold Plan.look
        simp only [hkd] at hh ⊢
        rw [hko hh]
        constructor
        · intro h; exact Nat.eq_of_beq_eq_true h
        · intro h; rw [h]; rfl
    · intro q hq
      simp only [List.mem_filter, List.mem_range] at hq
      exact ⟨hq.1, hq.2⟩
    · intro i hi hh
      simp only [List.mem_filter, List.mem_range]
      exact ⟨hi, hh⟩
    · exact List.Pairwise.filter _ List.nodup_range
  · cases h
end

section
variable {F : List Nat} {P : Program} {p : Plan} {ops : Array Oper} {ρ : Mp} {s : St} {w : World} {a : Act} {e : Env}

/-- the start: nothing listed -/
theorem Inv.start {call : Caller} (hS : Static p ops) (hP : PlanOf P p ops) (hR : R P ρ s w) (hE : EnvR ρ e a.tmps) {w' : World} (ha : Alike w w') {hs : List Nat} {x : Ex} {e' : Env} {s' : St}
    (hrun : runOps call (p.code 0 hs) e s = some (x, e', s')) : ∃ e1 s1 bl, runOps call (restC p 0 hs) e1 s1 = some (x, e', s') ∧ Inv F P p ρ s w a 0 (Array.replicate ops.size false) e1 s1 a w' ρ bl e := by
  rw [code_eq] at hrun
  obtain ⟨e3, s3, bl3, r1, r2, r3, r4, r5, r6, r7⟩ := lights_run (p.lightIx 0) e s (fun _ => none) (by
      intro i hi
      obtain ⟨h1, h2, h3⟩ := mem_lightIx.1 hi
      obtain ⟨o, di, g, ho, hdi', _, h4, _⟩ := ds_some hS hP h1
      refine ⟨_, hdi', h4 h2, fun t ht => ?_⟩
      have := (hS.light i t h1 h2 (by simp [Plan.dstAt, hdi']; exact ht)).1
      rw [readsAt_eq hdi'] at this; exact this) (by
      have hp : (p.lightIx 0).Pairwise (· < ·) := by
        unfold Plan.lightIx
        exact List.Pairwise.filter _ List.pairwise_lt_range
      refine List.Pairwise.imp_of_mem ?_ hp
      intro i j hi hj hij
      obtain ⟨h1, h2, _⟩ := mem_lightIx.1 hi
      obtain ⟨h3, h4, _⟩ := mem_lightIx.1 hj
      refine ⟨?_, by omega⟩
      intro di dj t hdi' hdj ht
      obtain ⟨q1, q2⟩ := hS.light j t h3 h4 (by simp [Plan.dstAt, hdj]; exact ht)
      obtain ⟨q3, q4⟩ := q2 i h1 (by omega)
      refine ⟨fun hm => ?_, fun hh => q3 (by simp [Plan.dstAt, hdi']; exact hh)⟩
      have := (hS.before i j h1 h3 (q4 (by rw [readsAt_eq hdi']; exact hm))).1
      omega) hR.void ⟨(fun i b h => by cases h), (fun i j b h => by cases h)⟩ (fun _ _ => rfl) hrun
  have hf : ∀ i, (Array.replicate ops.size false).getD i false = false := by
    intro i
    rw [Array.getD_eq_getD_getElem?, Array.getElem?_replicate]
    split <;> rfl
  refine ⟨e3, s3, bl3, r1, ⟨by simp [hS.size], Pads.went hR r2 (Went.of_alike hR ha), Kept.refl _, hE, ?_, ?_, ?_, r6, ?_, ?_, ?_⟩⟩
  · intro t ht
    exact (r3 t (fun i hi => by
      obtain ⟨h1, h2, _⟩ := mem_lightIx.1 hi
      exact ht i h1 h2 (hf i))).symm
  · intro i h1 h2 _ h4
    exact r4 i (mem_lightIx.2 ⟨h1, h2, by omega⟩)
  · intro i _ _ h; rw [hf] at h; cases h
  · intro i b hb
    rcases r7 i b hb with h | ⟨h1, h2⟩
    · cases h
    · refine ⟨h2, ?_, by have := (mem_lightIx.1 h1).2.2; omega⟩
      cases hx : ρ b with
      | none => rfl
      | some y => have := hR.fresh b y hx; omega
  · intro j h _
    rw [hf]
    constructor
    · intro h; cases h
    · intro h; omega
  · intro i j _ _ h; rw [hf] at h; cases h

theorem cnt_start (n : Nat) : cnt (Array.replicate n false) = n := by
  unfold cnt
  simp [List.countP_replicate]

theorem chain_spec : ∀ {l : List Nat}, p.chainOk l = true → ∀ j h h', l[j]? = some h → l[j + 1]? = some h' → p.bef h' h = true
  | [], _, j, h, h', h1, _ => by simp at h1
  | [a], _, j, h, h', _, h2 => by simp at h2
  | a :: b :: r, hc, j, h, h', h1, h2 => by
    simp only [Plan.chainOk, Bool.and_eq_true] at hc
    cases j with
    | zero =>
      simp at h1 h2
      subst h1; subst h2
      exact hc.1
    | succ j =>
      exact chain_spec hc.2 j h h' (by simpa using h1) (by simpa using h2)

/-- a region whose rest lies in a chain -/
theorem draw_chain {call : Caller} (hm : P.follows .mixedOrders = true) (hcall : CallOk P call) (hplan : planC P ops = some p) (hok : p.ok ops = true) (hch : p.chainOk p.hs = true) {id : Nat}
    (hin : ∀ o ∈ ops.toList, dstIn F a.tmps.size o.dst = true) (hR : R P ρ s w) (hE : EnvR ρ e a.tmps) {x : Ex} {e' : Env} {s' : St} (hrun : runOps call (p.code 0 p.hs) e s = some (x, e', s')) :
    (Code.region id ops true).wp P (Post F P ρ s w a x e' s') a w := by
  obtain ⟨hP, hask⟩ := planOf hplan
  have hS := static_of_ok hok
  obtain ⟨e1, s1, bl, h1, I⟩ := Inv.start hS hP hR hE (Alike.drew w) hrun
  refine wp_region_any hm ?_
  refine chain_sound hcall hS hP hR hin (k0 := 0) (fun j h h' _ h1 h2 => chain_spec hch j h h' h1 h2) ?_ (fun _ _ _ h => h) ops.size 0 _ e1 s1 a _ ρ bl e (Nat.le_refl _) I (cnt_start _) h1
  intro k _
  unfold Plan.askAt
  split <;> simp [hask]
end
end Go.D
namespace Go.D
open Go

section
variable {P : Program} {ρ0 ρ : Mp} {s0 : St} {w0 w : World}

/-- D's heap, block by block, is all that counts -/
theorem Went.ext {s s' : St} (h : Went P ρ0 s0 w0 ρ s w) (hg : ∀ b, getB s' b = getB s b) (hn : s'.next = s.next) : Went P ρ0 s0 w0 ρ s' w := by
  have hR := h.rel
  have lv : ∀ c, live s' c → live s c := fun c ⟨q, h1, h2⟩ => ⟨q, by rw [← hg]; exact h1, h2⟩
  refine ⟨h.le, ⟨?_, ?_, hR.there, ?_, ?_, hR.glob, ?_, ?_⟩, h.fr, ⟨by rw [hn]; exact h.frD.1, ?_⟩, ?_, h.newAt⟩
  · intro b x e; rw [hn]; exact hR.fresh b x e
  · intro b hb; rw [hg]; exact hR.void b (by rw [← hn]; exact hb)
  · intro b c x y e1 e2 hne l1 l2; exact hR.apart b c x y e1 e2 hne (lv b l1) (lv c l2)
  · intro b x o e1 e2; rw [hg] at e2; exact hR.obj b x o e1 e2
  · intro b x o e1 e2; rw [hg] at e2; exact hR.lone b x o e1 e2
  · intro g cs e n hg' h1; rw [hg] at h1; exact hR.fix g cs e n hg' h1
  · intro b hb e; rw [hg]; exact h.frD.2 b hb e
  · intro b hb hl; exact h.lives b hb (lv b hl)
end

/-- what a store is -/
theorem opStore_eq {s s1 : St} {n : Nat} {a x dv : DV} (h : opStore s n a x = some (dv, s1)) :
    dv = undefD ∧ ∃ b o cs' , a = .ptr (some (b, o)) ∧ s1 = setB s b cs' ∧ ∀ s2, getB s2 b = getB s b → opStore s2 n a x = some (undefD, setB s2 b cs') := by
  unfold opStore at h
  split at h
  · rename_i b o
    rcases Bool.eq_false_or_eq_true (Nat.beq (len x.cells) n) with n4 | n4
    · rw [bif_true n4] at h
      split at h
      · rename_i t ht
        injection h with h; injection h with h1 h2; subst h1; subst h2
        unfold storeN at ht
        cases hg : getB s b with
        | none => rw [hg] at ht; cases ht
        | some ob =>
          rw [hg] at ht
          cases ob with
          | cells cs el nn =>
            cases ha : atoms x.cells with
            | false => rw [ha] at ht; cases ht
            | true =>
              rw [ha] at ht
              simp only [cond_true] at ht
              cases hgr : graft cs o x.cells with
              | none => rw [hgr] at ht; cases ht
              | some m =>
                rw [hgr] at ht; simp only at ht; injection ht with ht; subst ht
                refine ⟨rfl, b, o, _, rfl, rfl, ?_⟩
                intro s2 h2
                simp only [opStore, n4, cond_true, storeN, h2, hg, ha, hgr]
          | map _ => cases ht
          | iter _ _ => cases ht
          | dead => cases ht
      · cases h
    · rw [bif_false n4] at h; cases h
  · cases h

/-- two stores at two blocks, the other way round -/
theorem store_swap {s s1 s2 : St} {n1 n2 : Nat} {a1 x1 a2 x2 dv1 dv2 : DV} {b1 o1 b2 o2 : Nat} (h1 : opStore s n1 a1 x1 = some (dv1, s1)) (h2 : opStore s1 n2 a2 x2 = some (dv2, s2)) (ha1 : a1 = .ptr (some (b1, o1))) (ha2 : a2 = .ptr (some (b2, o2))) (hne : b1 ≠ b2) :
    ∃ t1 t2, opStore s n2 a2 x2 = some (undefD, t1) ∧ opStore t1 n1 a1 x1 = some (undefD, t2) ∧ (∀ b, getB t2 b = getB s2 b) ∧ t2.next = s2.next := by
  obtain ⟨_, c1, p1, cs1, q1, rfl, r1⟩ := opStore_eq h1
  rw [ha1] at q1; injection q1 with q1; injection q1 with q1; injection q1 with q1 q1'; subst q1; subst q1'
  obtain ⟨_, c2, p2, cs2, q2, rfl, r2⟩ := opStore_eq h2
  rw [ha2] at q2; injection q2 with q2; injection q2 with q2; injection q2 with q2 q2'; subst q2; subst q2'
  refine ⟨setB s b2 cs2, setB (setB s b2 cs2) b1 cs1, r2 s ?_, r1 _ ?_, ?_, rfl⟩
  · rw [getB_setB, if_neg (Ne.symm hne)]
  · rw [getB_setB, if_neg hne]
  · intro b
    simp only [getB_setB]
    by_cases hb1 : b = b1
    · subst hb1; simp [hne]
    · simp [hb1]

theorem tail2_eq : ∀ {hs l : List Nat} {h k : Nat}, Plan.tail2 hs = some (l, h, k) → hs = l ++ [h, k]
  | [], _, _, _, e => by simp [Plan.tail2] at e
  | [a], l, h, k, e => by simp [Plan.tail2] at e
  | [a, b], l, h, k, e => by
    simp only [Plan.tail2] at e
    injection e with e; injection e with e1 e2; injection e2 with e2 e3; subst e1; subst e2; subst e3; rfl
  | a :: b :: c :: r, l, h, k, e => by
    simp only [Plan.tail2] at e
    split at e
    · rename_i l' h' k' he
      injection e with e; injection e with e1 e2; injection e2 with e2 e3; subst e1; subst e2; subst e3
      rw [tail2_eq (hs := b :: c :: r) (by simpa [Plan.tail2] using he)]
      rfl
    · cases e

/-- the two ends of a plan, the other way round -/
def Plan.swap (p : Plan) (l : List Nat) (h k : Nat) : Plan := ⟨p.ds, p.kd, p.b, l ++ [k, h], []⟩

structure TailOk (p : Plan) (ops : Array Oper) (d : DOper) (l : List Nat) (h k : Nat) : Prop where
  hs : p.hs = l ++ [h, k]
  ds : ∃ n1 x1 v1 n2 x2 v2, p.ds[h]? = some ⟨none, .store n1 x1 v1, none⟩ ∧ p.ds[k]? = some ⟨none, .store n2 x2 v2, none⟩ ∧ d = ⟨none, .apart x1 x2, none⟩
  ch1 : p.chainOk (l ++ [h]) = true
  ch2 : p.chainOk (l ++ [k]) = true
  ok2 : (p.swap l h k).ok ops = true
  free : ∀ i, i < p.n → p.heavy i = false → p.bef i h = false ∧ p.bef i k = false ∧ (p.look i = true → p.bef h i = true ∧ p.bef k i = true)

theorem tail_of {p : Plan} {ops : Array Oper} {d : DOper} (h : p.tailOk ops = some d) : ∃ l a b, TailOk p ops d l a b := by
  unfold Plan.tailOk at h
  split at h
  · rename_i l a b ht
    split at h
    · rename_i n1 x1 v1 n2 x2 v2 h1 h2
      have hb := h
      rcases Bool.eq_false_or_eq_true (p.chainOk (l ++ [a]) && p.chainOk (l ++ [b]) && Plan.ok ⟨p.ds, p.kd, p.b, l ++ [b, a], []⟩ ops && (List.range p.n).all (fun i => p.heavy i || (!(p.bef i a) && !(p.bef i b) && (!(p.look i) || (p.bef a i && p.bef b i))))) with n4 | n4
      · rw [bif_true n4] at h
        injection h with h
        simp only [Bool.and_eq_true, List.all_eq_true, List.mem_range, Bool.or_eq_true, Bool.not_eq_true'] at n4
        obtain ⟨⟨⟨c1, c2⟩, c3⟩, c4⟩ := n4
        refine ⟨l, a, b, tail2_eq ht, ⟨n1, x1, v1, n2, x2, v2, h1, h2, h.symm⟩, c1, c2, c3, ?_⟩
        intro i hi hh
        rcases c4 i hi with q | ⟨⟨q1, q2⟩, q3⟩
        · rw [hh] at q; cases q
        · refine ⟨q1, q2, fun hl => ?_⟩
          rcases q3 with q3 | q3
          · rw [hl] at q3; cases q3
          · exact q3
      · rw [bif_false n4] at h; cases h
    · cases h
  · cases h
end Go.D
namespace Go.D
open Go

theorem look_light {p : Plan} {i : Nat} (h : p.look i = true) : p.heavy i = false := by
  unfold Plan.look at h
  unfold Plan.heavy
  rw [Nat.eq_of_beq_eq_true h]; rfl

theorem ends_lo {p : Plan} {l : List Nat} {a b : Nat} (hs : p.hs = l ++ [a, b]) {i : Nat} (h1 : p.bef i a = false) (h2 : p.bef i b = false) : p.lo i ≤ l.length := by
  unfold Plan.lo
  rw [hs, List.filter_append]
  have : [a, b].filter (fun h => p.bef i h) = [] := by simp [h1, h2]
  rw [this, List.append_nil]
  exact List.length_filter_le _ _

theorem ends_light {p : Plan} {l : List Nat} {a b : Nat} (hs : p.hs = l ++ [a, b]) (hf : ∀ i, i < p.n → p.heavy i = false → p.bef i a = false ∧ p.bef i b = false ∧ (p.look i = true → p.bef a i = true)) {m : Nat} (hm : l.length < m) : p.lightIx m = [] := by
  rw [List.eq_nil_iff_forall_not_mem]
  intro i hi
  obtain ⟨h1, h2, h3⟩ := mem_lightIx.1 hi
  obtain ⟨q1, q2, _⟩ := hf i h1 h2
  have := ends_lo hs q1 q2
  omega

theorem ends_check {p : Plan} {l : List Nat} {a b : Nat} (hs : p.hs = l ++ [a, b]) (hf : ∀ i, i < p.n → p.heavy i = false → p.bef i a = false ∧ p.bef i b = false ∧ (p.look i = true → p.bef a i = true)) {m : Nat} (hm : l.length < m) : p.checkIx m = [] := by
  rw [List.eq_nil_iff_forall_not_mem]
  intro i hi
  unfold Plan.checkIx at hi
  simp only [List.mem_filter, List.mem_range, Bool.and_eq_true, List.all_eq_true, Bool.not_eq_true'] at hi
  obtain ⟨h1, ⟨h2, h3⟩, h4⟩ := hi
  have hq := (hf i h1 (look_light h2)).2.2 h2
  have ha : a ∈ p.hs.take m := by
    rw [hs]
    refine List.mem_of_getElem? (i := l.length) ?_
    rw [List.getElem?_take, if_pos hm]
    simp
  rw [h4 a ha] at hq; cases hq

theorem askAt_ne {p : Plan} {r : List Nat} (h : r.length ≠ 1) : p.askAt r = [] := by
  unfold Plan.askAt
  split
  · simp at h
  · rfl

section
variable {F : List Nat} {P : Program} {p : Plan} {ops : Array Oper} {ρ0 : Mp} {s0 : St} {w0 : World} {a0 : Act}

theorem tail_sound {call : Caller} (hcall : CallOk P call) (hS : Static p ops) (hP : PlanOf P p ops) (hR0 : R P ρ0 s0 w0) (hin : ∀ o ∈ ops.toList, dstIn F a0.tmps.size o.dst = true) {d : DOper} {l : List Nat} {h1 h2 : Nat}
    (hT : TailOk p ops d l h1 h2) (hask : p.ask = [d]) {x : Ex} {e' : Env} {s' : St} :
    ∀ (fuel k : Nat) (L : Array Bool) (e : Env) (s : St) (a : Act) (w : World) (ρ : Mp) (bl : Nat → Option Nat) (ee : Env), k ≤ l.length → Inv F P p ρ0 s0 w0 a0 k L e s a w ρ bl ee → cnt L = fuel →
      runOps call (restC p k (p.hs.drop k)) e s = some (x, e', s') → wpAny P .any ops (Post F P ρ0 s0 w0 a0 x e' s') fuel L a w := by
  have hhs := hT.hs
  have hlen : p.hs.length = l.length + 2 := by rw [hhs]; simp
  have hg1 : p.hs[l.length]? = some h1 := by rw [hhs]; simp
  have hg2 : p.hs[l.length + 1]? = some h2 := by rw [hhs]; simp
  have hgl : ∀ j, j < l.length → p.hs[j]? = l[j]? := fun j hj => by rw [hhs, List.getElem?_append_left hj]
  have hf1 : ∀ i, i < p.n → p.heavy i = false → p.bef i h1 = false ∧ p.bef i h2 = false ∧ (p.look i = true → p.bef h1 i = true) := fun i hi hh => by
    obtain ⟨q1, q2, q3⟩ := hT.free i hi hh
    exact ⟨q1, q2, fun hl => (q3 hl).1⟩
  intro fuel
  induction fuel with
  | zero =>
    intro k L e s a w ρ bl ee hkl I hc hrun
    have hall : ∀ i, i < p.n → L.getD i false = true := fun i hi => cnt_zero hc (by rw [I.sz]; exact hi)
    refine ⟨?_, I.finish hP hall hrun⟩
    cases hr : Region.ready .any ops L with
    | nil => rfl
    | cons i l =>
      have hi : i ∈ Region.ready .any ops L := by rw [hr]; simp
      obtain ⟨h1, h2, _⟩ := I.ready hS hi
      rw [hall i h1] at h2; cases h2
  | succ fuel ih =>
    intro k L e s a w ρ bl ee hkl I hc hrun
    refine ⟨fun hr => I.finish hP (all_of_ready hS I.sz hr) hrun, ?_⟩
    intro i hi
    obtain ⟨hin', hun, hbef⟩ := I.ready hS hi
    have hc' : cnt (L.setIfInBounds i true) = fuel := by
      have := cnt_set (by rw [I.sz]; exact hin') hun
      omega
    cases hh : p.heavy i with
    | false =>
      refine I.step_light hS hP hR0 hi hh hin ?_
      intro a' w' ρ' bl' ee' I'
      exact ih k _ e s a' w' ρ' bl' ee' hkl I' hc' hrun
    | true =>
      obtain ⟨j, hj, hji⟩ := List.getElem_of_mem (hP.all i hin' hh)
      have hj' : p.hs[j]? = some i := by rw [List.getElem?_eq_getElem hj, hji]
      have hjk : k ≤ j := by
        rcases Nat.lt_or_ge j k with h | h
        · have := (I.hs j i hj').2 h
          rw [hun] at this; cases this
        · exact h
      -- what lies ahead of it in the chain is listed
      have nope : ∀ q hq, k ≤ q → p.hs[q]? = some hq → p.bef i hq = true → False := by
        intro q hq hkq hq' hb
        have := hbef _ (hP.inN _ (List.mem_of_getElem? hq')).1 hb
        have := (I.hs q _ hq').1 this
        omega
      rcases Nat.lt_or_ge k l.length with hlt | hge
      · -- in the chain
        have hjk' : j = k := by
          rcases Nat.lt_or_ge k j with h | h
          · exfalso
            rcases Nat.lt_or_ge l.length j with hjl | hjl
            · -- the last
              have : j = l.length + 1 := by omega
              subst this
              rw [hg2] at hj'; injection hj' with hj'; subst hj'
              obtain ⟨q, hq⟩ : ∃ q, l.length = q + 1 := ⟨l.length - 1, by omega⟩
              have hql : q < l.length := by omega
              have hq' := List.getElem?_eq_getElem hql
              have hb := chain_spec hT.ch2 q l[q] h2 (by rw [List.getElem?_append_left hql]; exact hq') (by rw [← hq]; simp)
              exact nope q _ (by omega) (by rw [hgl q hql]; exact hq') hb
            · obtain ⟨q, rfl⟩ : ∃ q, j = q + 1 := ⟨j - 1, by omega⟩
              have hql : q < l.length := by omega
              have hq' := List.getElem?_eq_getElem hql
              have hb := chain_spec hT.ch1 q l[q] i (by rw [List.getElem?_append_left hql]; exact hq') (by
                rcases Nat.lt_or_ge (q + 1) l.length with h | h
                · rw [List.getElem?_append_left h, ← hgl _ h]; exact hj'
                · have hqe : q + 1 = l.length := by omega
                  rw [hqe] at hj' ⊢
                  rw [hg1] at hj'; rw [← hj']; simp)
              exact nope q _ (by omega) (by rw [hgl q hql]; exact hq') hb
          · omega
        subst hjk'
        rw [List.drop_eq_getElem_cons hj, hji] at hrun
        simp only [restC, askAt_ne (p := p) (r := p.hs.drop (j + 1)) (by simp; omega), List.nil_append] at hrun
        refine I.step_heavy hcall hS hP hR0 hi hj' hin hrun ?_ (fun _ _ _ h => h)
        intro e3 s3 a' w' ρ' bl' ee' hr I'
        exact ih (j + 1) _ e3 s3 a' w' ρ' bl' ee' (by omega) I' hc' hr
      · -- the two last
        have hke : k = l.length := by omega
        subst hke
        have hdrop : p.hs.drop l.length = [h1, h2] := by rw [hhs]; simp
        rw [hdrop] at hrun
        obtain ⟨n1, x1, v1, n2, x2, v2, hd1, hd2, hdd⟩ := hT.ds
        have ha2 : p.askAt [h2] = [d] := by simp [Plan.askAt, hask]
        simp only [restC, ha2, List.singleton_append, hdd, runOps, askG, doOp] at hrun
        unfold apartD at hrun
        split at hrun
        · rename_i b1 o1 b2 o2 hp1 hp2
          split at hrun
          · cases hrun
          · rename_i hbne
            have hbne : b1 ≠ b2 := fun hb => by rw [hb, Nat.beq_refl] at hbne; cases hbne
            rcases Nat.lt_or_ge l.length j with hjl | hjl
            · -- the other way round
              have : j = l.length + 1 := by omega
              subst this
              rw [hg2] at hj'; injection hj' with hj'; subst hj'
              have hf2 : ∀ i, i < p.n → p.heavy i = false → p.bef i h2 = false ∧ p.bef i h1 = false ∧ (p.look i = true → p.bef h2 i = true) := fun i hi hh => by
                obtain ⟨q1, q2, q3⟩ := hT.free i hi hh
                exact ⟨q2, q1, fun hl => (q3 hl).2⟩
              have hperm : (l ++ [h2, h1]).Perm p.hs := by rw [hhs]; exact List.Perm.append_left l (List.Perm.swap _ _ _)
              have hS2 := static_of_ok hT.ok2
              have hlo : ∀ i, (p.swap l h1 h2).lo i = p.lo i := fun i => (List.Perm.filter _ hperm).length_eq
              have hP2 : PlanOf P (p.swap l h1 h2) ops := ⟨hP.op, fun q hq => hP.inN q (hperm.mem_iff.1 hq), fun i hi hh => hperm.mem_iff.2 (hP.all i hi hh), hperm.nodup_iff.2 hP.nodup⟩
              have I2 : Inv F P (p.swap l h1 h2) ρ0 s0 w0 a0 l.length L e s a w ρ bl ee := by
                refine ⟨I.sz, I.went, I.kept, I.env, I.same, fun i q1 q2 q3 q4 => I.pend i q1 q2 q3 (by rw [← hlo]; exact q4), fun i q1 q2 q3 => by rw [hlo]; exact I.done i q1 q2 q3, I.blk, fun i b hb => by rw [hlo]; exact I.blr i b hb, ?_, I.closed⟩
                intro j q hq
                have hq : (l ++ [h2, h1])[j]? = some q := hq
                rcases Nat.lt_or_ge j l.length with h | h
                · rw [List.getElem?_append_left h, ← hgl j h] at hq
                  exact I.hs j q hq
                · rw [List.getElem?_append_right h] at hq
                  have hun : L.getD q false = false := by
                    have hun1 : L.getD h1 false = false := by
                      cases hl : L.getD h1 false with
                      | false => rfl
                      | true => have := (I.hs _ _ hg1).1 hl; omega
                    obtain ⟨m, hm⟩ : ∃ m, j = l.length + m := ⟨j - l.length, by omega⟩
                    subst hm
                    rw [Nat.add_sub_cancel_left] at hq
                    match m, hq with
                    | 0, hq => simp at hq; subst hq; exact hun
                    | 1, hq => simp at hq; subst hq; exact hun1
                    | m + 2, hq => simp at hq
                  rw [hun]
                  constructor
                  · intro h; cases h
                  · intro h'; omega
              rw [op1_eq hd1, ends_check hhs hf1 (by omega), code_eq, ends_light hhs hf1 (by omega)] at hrun
              simp only [restC, Plan.askAt, op1_eq hd2] at hrun
              rw [ends_check hhs hf1 (by omega), code_eq, ends_light hhs hf1 (by omega)] at hrun
              simp only [restC, Plan.samesOf, Plan.opsOf, List.nil_append, List.append_nil, List.singleton_append, runOps, askG, doOp, put] at hrun
              cases hq1 : opD e s (.store n1 x1 v1) with
              | none => rw [hq1] at hrun; cases hrun
              | some r1 =>
                obtain ⟨dv1, s1⟩ := r1
                rw [hq1] at hrun
                simp only [afterOp, put] at hrun
                cases hq2 : opD e s1 (.store n2 x2 v2) with
                | none => rw [hq2] at hrun; cases hrun
                | some r2 =>
                  obtain ⟨dv2, s2⟩ := r2
                  rw [hq2] at hrun
                  simp only [afterOp, put] at hrun
                  injection hrun with hrun; injection hrun with e1 e2; injection e2 with e2 e3; subst e1; subst e2; subst e3
                  obtain ⟨t1, t2, g1, g2, g3, g4⟩ := store_swap hq1 hq2 hp1 hp2 hbne
                  have g1 : opD e s (.store n2 x2 v2) = some (undefD, t1) := g1
                  have g2 : opD e t1 (.store n1 x1 v1) = some (undefD, t2) := g2
                  have hd1' : (p.swap l h1 h2).ds[h1]? = some ⟨none, .store n1 x1 v1, none⟩ := hd1
                  have hd2' : (p.swap l h1 h2).ds[h2]? = some ⟨none, .store n2 x2 v2, none⟩ := hd2
                  have hhs2 : (p.swap l h1 h2).hs = l ++ [h2, h1] := rfl
                  have run2 : runOps call ((p.swap l h1 h2).op1 h2 ++ ((p.swap l h1 h2).samesOf ((p.swap l h1 h2).checkIx (l.length + 1)) ++ (p.swap l h1 h2).code (l.length + 1) [h1])) e s = some (.norm, e, t2) := by
                    rw [op1_eq hd2', ends_check hhs2 hf2 (by omega), code_eq, ends_light hhs2 hf2 (by omega)]
                    simp only [restC, Plan.askAt, op1_eq hd1']
                    rw [ends_check hhs2 hf2 (by omega), code_eq, ends_light hhs2 hf2 (by omega)]
                    simp only [restC, Plan.samesOf, Plan.opsOf, List.nil_append, List.append_nil, List.singleton_append, runOps, askG, doOp, put, g1, afterOp, g2]
                  refine I2.step_heavy hcall hS2 hP2 hR0 hi (by rw [hhs2]; simp) hin run2 ?_ ?_
                  · intro e3 s3 a' w' ρ' bl' ee' hr I'
                    refine chain_sound hcall hS2 hP2 hR0 hin (k0 := l.length + 1) ?_ ?_ ?_ fuel (l.length + 1) _ e3 s3 a' w' ρ' bl' ee' (Nat.le_refl _) I' hc' (by
                      have : (p.swap l h1 h2).hs.drop (l.length + 1) = [h1] := by rw [hhs2, List.drop_append]; simp
                      rw [this]; exact hr)
                    · intro j q q' hj0 hq hq'
                      have : j + 1 < (p.swap l h1 h2).hs.length := by
                        rcases Nat.lt_or_ge (j + 1) (p.swap l h1 h2).hs.length with h | h
                        · exact h
                        · rw [List.getElem?_eq_none h] at hq'; cases hq'
                      rw [hhs2] at this
                      simp at this
                      omega
                    · intro k hk
                      rw [List.drop_eq_nil_of_le (by rw [hhs2]; simp; omega)]; rfl
                    · intro ex a' w' ⟨ρ2, k1, k2, k3, k4⟩
                      exact ⟨ρ2, k1.ext (fun b => (g3 b).symm) g4.symm, k2, k3, k4⟩
                  · intro ex a' w' ⟨ρ2, k1, k2, k3, k4⟩
                    exact ⟨ρ2, k1.ext (fun b => (g3 b).symm) g4.symm, k2, k3, k4⟩
            · have : j = l.length := by omega
              subst this
              rw [hg1] at hj'; injection hj' with hj'; subst hj'
              refine I.step_heavy hcall hS hP hR0 hi hg1 hin hrun ?_ (fun _ _ _ h => h)
              intro e3 s3 a' w' ρ' bl' ee' hr I'
              refine chain_sound hcall hS hP hR0 hin (k0 := l.length + 1) ?_ ?_ (fun _ _ _ h => h) fuel (l.length + 1) _ e3 s3 a' w' ρ' bl' ee' (Nat.le_refl _) I' hc' (by
                have : p.hs.drop (l.length + 1) = [h2] := by rw [hhs, List.drop_append]; simp
                rw [this]; exact hr)
              · intro j q q' hj0 hq hq'
                have : j + 1 < p.hs.length := by
                  rcases Nat.lt_or_ge (j + 1) p.hs.length with h | h
                  · exact h
                  · rw [List.getElem?_eq_none h] at hq'; cases hq'
                omega
              · intro k hk
                rw [List.drop_eq_nil_of_le (by omega)]; rfl
        · cases hrun
end
end Go.D
namespace Go.D
open Go

theorem chain_ask (p : Plan) (a : List DOper) : ∀ l : List Nat, (⟨p.ds, p.kd, p.b, p.hs, a⟩ : Plan).chainOk l = p.chainOk l
  | [] => rfl
  | [_] => rfl
  | h :: k :: r => by
    simp only [Plan.chainOk]
    rw [chain_ask p a (k :: r)]
    rfl

theorem draw_ok {P : Program} (hm : P.follows .mixedOrders = true) : DrawOk P := by
  intro F call ops ds id ρ s w e a x e' s' hcall hc hin hR hE hrun
  unfold drawC at hc
  split at hc
  · rename_i p hp
    rcases Bool.eq_false_or_eq_true (p.ok ops) with n4 | n4
    · rw [bif_true n4] at hc
      rcases Bool.eq_false_or_eq_true (p.chainOk p.hs) with n5 | n5
      · rw [bif_true n5] at hc
        injection hc with hc; subst hc
        exact draw_chain hm hcall hp n4 n5 hin hR hE hrun
      · rw [bif_false n5] at hc
        split at hc
        · rename_i d hd
          injection hc with hc; subst hc
          obtain ⟨l, h1, h2, hT⟩ := tail_of hd
          obtain ⟨hP, _⟩ := planOf hp
          have hS := static_of_ok n4
          let q : Plan := ⟨p.ds, p.kd, p.b, p.hs, [d]⟩
          have hPq : PlanOf P q ops := ⟨hP.op, hP.inN, hP.all, hP.nodup⟩
          have hSq : Static q ops := ⟨hS.size, hS.edges, hS.before, hS.light, hS.heavy, hS.pre, hS.lookD⟩
          have hTq : TailOk q ops d l h1 h2 := ⟨hT.hs, hT.ds, by rw [chain_ask]; exact hT.ch1, by rw [chain_ask]; exact hT.ch2, hT.ok2, hT.free⟩
          have hrun' : runOps call (q.code 0 q.hs) e s = some (x, e', s') := hrun
          obtain ⟨e1, s1, bl, k1, I⟩ := Inv.start hSq hPq hR hE (Alike.drew w) hrun'
          refine wp_region_any hm ?_
          exact tail_sound hcall hSq hPq hR hin hTq rfl ops.size 0 _ e1 s1 a _ ρ bl e (Nat.zero_le _) I (cnt_start _) k1
        · cases hc
    · rw [bif_false n4] at hc; cases hc
  · cases hc
end Go.D
namespace Go.D
open Go

def PlainOk (P : Program) (f : Nat) (df : DFunc) : Prop :=
  ∃ fn c, P.funcs[f]? = some fn ∧ (fn.name == "runtime.NumGoroutine") = false ∧ fn.body = some c ∧ resC P fn.results.toList = some df.results ∧ codeC P c = some df.body ∧ df.more = none ∧ codeIn [] fn.ntmps c = true

def MoreOk (P : Program) (D : DProg) (f : Nat) (df : DFunc) : Prop :=
  ∀ (n : Nat), (∀ m, m ≤ n → ExecOk P D m) → ∀ (dargs : List DV) (ρ : Mp) (s : St) (w : World) (args : Array Value) (out : Out) (s' : St), finish (exec D n) df (exec D n df.body (envOf dargs 0 .leaf) s) = some (out, s') → R P ρ s w → VRs ρ dargs args.toList → UponCall P ρ s w out s' f args

def KnownOk (P : Program) (f : Nat) (known : List DV → St → Option (Out × St)) : Prop :=
  ∀ (dargs : List DV) (ρ : Mp) (s : St) (w : World) (args : Array Value) (out : Out) (s' : St), known dargs s = some (out, s') → R P ρ s w → VRs ρ dargs args.toList → UponCall P ρ s w out s' f args

theorem dOk {P : Program} {D : DProg} (hf : ∀ f df, D.funcs f = some df → PlainOk P f df ∨ MoreOk P D f df) (hk : ∀ f, D.funcs f = none → KnownOk P f (D.known f)) : DOk P D := by
  intro n hE f dargs ρ s w args out s' h hR hV
  unfold callF at h
  cases hfd : D.funcs f with
  | none => rw [hfd] at h; exact hk f hfd dargs ρ s w args out s' h hR hV
  | some df =>
    rw [hfd] at h
    rcases hf f df hfd with ⟨fn, c, h1, h2, h3, h4, h5, h6, h7⟩ | hm
    · exact plain_sound (hE n (Nat.le_refl n)) h1 h2 h3 h4 h5 h6 h7 h hR hV
    · exact hm n hE dargs ρ s w args out s' h hR hV

/-- D's answer is the model's, at every tape -/
theorem run_sound {P : Program} {D : DProg} (hm : P.follows .mixedOrders = true) (hD : DOk P D) {n f : Nat} {dargs : List DV} {ρ : Mp} {s : St} {w : World} {args : Array Value} {out : Out} {s' : St}
    (h : runF D n f dargs s = some (out, s')) (hR : R P ρ s w) (hV : VRs ρ dargs args.toList) : UponCall P ρ s w out s' f args :=
  hD n (exec_ok hD (draw_ok hm) n).1 f dargs ρ s w args out s' h hR hV
end Go.D
