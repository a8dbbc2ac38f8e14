/-
  Its operations are sound (2).
-/
import Derived.Test.YtbecblfbikahkaaGreatDoorDb
import Derived.Laws.Strings2
import Derived.Lib.UnsafeStr
import Derived.Laws.BytesString
import Derived.Laws.Cover4
set_option linter.all false
set_option linter.deprecated false
namespace Go.D
open Go

section
variable {P : Program} {ρ : Mp} {s : St} {w : World}

theorem idx0 {α : Type} (a : α) : (#[a] : Array α)[0]? = some a := rfl
theorem idx20 {α : Type} (a b : α) : (#[a, b] : Array α)[0]? = some a := rfl
theorem idx21 {α : Type} (a b : α) : (#[a, b] : Array α)[1]? = some b := rfl

theorem sizeIs_eq (hR : R P ρ s w) {b n : Nat} {x : BI} (hb : ρ b = some x) (h : sizeIs s b n = true) : x.esz = n := by
  unfold sizeIs at h
  cases hg : getB s b with
  | none => rw [hg] at h; cases h
  | some o =>
    rw [hg] at h
    cases o with
    | cells cs e m =>
      obtain ⟨rc, lo, hi, _, _, _, h4, _, _⟩ := hR.obj b x _ hb hg
      have := Nat.eq_of_beq_eq_true h
      omega
    | map _ => cases h
    | iter _ _ => cases h
    | dead => cases h

theorem s_sliceSl (hR : R P ρ s w) {t e n : Nat} {a dv : DV} {a' : Value} {lo hi : Option DV} {lo' hi' : Option Value} {s' : St} (hu : P.underlying t = some (.slice e)) (hn : sizeC P e = some n) (ha : VR ρ a a')
    (hlo : VRo ρ lo lo') (hhi : VRo ρ hi hi') (h : opSliceSl s n a lo hi = some (dv, s')) : DoesV P ρ s w ((Instr.sliceAt t a' lo' hi' none).run P w) dv s' := by
  unfold opSliceSl at h
  split at h
  · rename_i p m
    split at h
    · rename_i hh h1
      split at h
      · rename_i b h2
        cases ha with
        | sliceNil =>
          simp only at h
          injection h with h; injection h with e1 e2; subst e1; subst e2
          obtain ⟨q1, q2, q3⟩ := sliceBounds_sound (P := P) (w := w) (q := true) (cap := 0) hlo hhi (Nat.le_refl _) h1 h2
          have h0 : hh = 0 := by omega
          have b0 : b = 0 := by omega
          subst h0; subst b0
          simp only [Instr.sliceAt, Sem.run_bind, run_underlying' hu, Result.andThen_ok, Instr.slice, q1, run_sizeOf' hn, Sem.run_pure]
          exact DoesV.same hR .sliceNil
        | @slice r o _ c x hb hle hc =>
          simp only at h
          rcases Bool.eq_false_or_eq_true (sizeIs s r n) with h0 | h0
          · rw [bif_true h0] at h
            injection h with h; injection h with e1 e2; subst e1; subst e2
            have hes := sizeIs_eq hR hb h0
            obtain ⟨q1, q2, q3⟩ := sliceBounds_sound (P := P) (w := w) (q := true) (cap := c) hlo hhi hle h1 h2
            simp only [Instr.sliceAt, Sem.run_bind, run_underlying' hu, Result.andThen_ok, Instr.slice, q1, run_sizeOf' hn, Sem.run_pure]
            by_cases hcb : c = b
            · rw [if_pos hcb]
              have e1 : hh - b = 0 := by omega
              have e2 : c - b = 0 := by omega
              rw [e1, e2]
              exact DoesV.same hR (.sliceEmpty hb _)
            · rw [if_neg hcb]
              simp only [Option.map_some, add_eq]
              have hbc : b ≤ c := by omega
              refine DoesV.same hR ?_
              have hlim : x.base + (o + b * n) + (c - b) * x.esz ≤ x.lim := by
                rw [hes] at hc ⊢
                have : b * n + (c - b) * n = c * n := by rw [← Nat.add_mul]; congr 1; omega
                omega
              have := VR.slice (ρ := ρ) (b := r) (o := o + b * n) (n := hh - b) (c := c - b) hb (by omega) hlim
              rw [Nat.add_assoc]
              exact this
          · rw [bif_false h0] at h; cases h
        | @sliceEmpty r o x hb q =>
          simp only at h
          rcases Bool.eq_false_or_eq_true (sizeIs s r n) with h0 | h0
          · rw [bif_true h0] at h
            injection h with h; injection h with e1 e2; subst e1; subst e2
            obtain ⟨q1, q2, q3⟩ := sliceBounds_sound (P := P) (w := w) (q := true) (cap := 0) hlo hhi (Nat.le_refl _) h1 h2
            have h0 : hh = 0 := by omega
            have b0 : b = 0 := by omega
            subst h0; subst b0
            simp only [Instr.sliceAt, Sem.run_bind, run_underlying' hu, Result.andThen_ok, Instr.slice, q1, run_sizeOf' hn, Sem.run_pure]
            exact DoesV.same hR (.sliceEmpty hb _)
          · rw [bif_false h0] at h; cases h
      · cases h
    · cases h
  · cases h

theorem s_lenStr (hR : R P ρ s w) {t u : Nat} {ts : Array TypeId} {a dv : DV} {a' : Value} {s' : St} (ht : ts[0]? = some t) (hu : P.underlying t = some .string) (ha : VR ρ a a') (h : opLenStr s a = some (dv, s')) :
    DoesV P ρ s w ((Builtin.len_ ts u #[a']).run P w) dv s' := by
  unfold opLenStr at h
  split at h
  · obtain ⟨p, rfl, rfl⟩ := str_eq ha
    injection h with h; injection h with h1 h2; subst h1; subst h2
    simp only [Builtin.len_, ht, idx0, Sem.run_bind, run_underlying' hu, Result.andThen_ok, Sem.run_pure, goInt, len_eq, map_length_str]
    exact DoesV.same hR (.int _ _)
  · cases h

theorem s_lenConst (hR : R P ρ s w) {t u n e : Nat} {ts : Array TypeId} {a' : Value} (ht : ts[0]? = some t) (hu : P.underlying t = some (.array n e)) :
    DoesV P ρ s w ((Builtin.len_ ts u #[a']).run P w) (.int .i64 (.ofNat n)) s := by
  simp only [Builtin.len_, ht, idx0, Sem.run_bind, run_underlying' hu, Result.andThen_ok, Sem.run_pure, goInt]
  exact DoesV.same hR (.int _ _)

theorem s_lenSl (hR : R P ρ s w) {t u e : Nat} {ts : Array TypeId} {a dv : DV} {a' : Value} {s' : St} (ht : ts[0]? = some t) (hu : P.underlying t = some (.slice e)) (ha : VR ρ a a') (h : opLenSl s a = some (dv, s')) :
    DoesV P ρ s w ((Builtin.len_ ts u #[a']).run P w) dv s' := by
  unfold opLenSl at h
  split at h
  · injection h with h; injection h with h1 h2; subst h1; subst h2
    cases ha with
    | sliceNil => simp only [Builtin.len_, ht, idx0, Sem.run_bind, run_underlying' hu, Result.andThen_ok, Sem.run_pure, goInt]; exact DoesV.same hR (.int _ _)
    | slice hb _ _ => simp only [Builtin.len_, ht, idx0, Sem.run_bind, run_underlying' hu, Result.andThen_ok, Sem.run_pure, goInt]; exact DoesV.same hR (.int _ _)
    | sliceEmpty _ _ => simp only [Builtin.len_, ht, idx0, Sem.run_bind, run_underlying' hu, Result.andThen_ok, Sem.run_pure, goInt]; exact DoesV.same hR (.int _ _)
  · cases h

theorem s_cap (hR : R P ρ s w) {t u e : Nat} {ts : Array TypeId} {a dv : DV} {a' : Value} {s' : St} (ht : ts[0]? = some t) (hu : P.underlying t = some (.slice e)) (ha : VR ρ a a') (h : opCap s a = some (dv, s')) :
    DoesV P ρ s w ((Builtin.cap_ ts u #[a']).run P w) dv s' := by
  unfold opCap at h
  split at h
  · injection h with h; injection h with h1 h2; subst h1; subst h2
    cases ha with
    | sliceNil => simp only [Builtin.cap_, ht, idx0, Sem.run_bind, run_underlying' hu, Result.andThen_ok, Sem.run_pure, goInt]; exact DoesV.same hR (.int _ _)
  · cases h

theorem entries_sound (hR : R P ρ s w) {a : DV} {a' : Value} {es : List (DV × DV)} (ha : VR ρ a a') (h : entriesD s a = some es) :
    (a' = .map none ∧ es = []) ∨ ∃ (r : Nat) (en : Array MapEntry) (clock : Nat), a' = .map (some r) ∧ (getObj r).run P w = .ok (.map en clock) w ∧ ERs ρ es en.toList := by
  unfold entriesD at h
  split at h
  · injection h with h; subst h
    cases ha with
    | mapNil => exact .inl ⟨rfl, rfl⟩
  · rename_i r
    cases ha with
    | @map _ x hb =>
      cases hg : getB s r with
      | none => rw [hg] at h; cases h
      | some o =>
        rw [hg] at h
        cases o with
        | map l =>
          injection h with h; subst h
          obtain ⟨en, clock, h1, h2⟩ := hR.obj r x _ hb hg
          refine .inr ⟨x.blk, en, clock, rfl, ?_, h2⟩
          simp [getObj, Sem.run, h1]
        | cells _ _ _ => cases h
        | iter _ _ => cases h
        | dead => cases h
  · cases h

theorem ERs.length {l : List (DV × DV)} {l' : List MapEntry} (h : ERs ρ l l') : l.length = l'.length := by
  induction h with
  | nil => rfl
  | cons _ _ _ ih => simp [ih]

theorem s_lenMap (hR : R P ρ s w) {t u k e : Nat} {ts : Array TypeId} {a dv : DV} {a' : Value} {s' : St} (ht : ts[0]? = some t) (hu : P.underlying t = some (.map k e)) (ha : VR ρ a a') (h : opLenMap s a = some (dv, s')) :
    DoesV P ρ s w ((Builtin.len_ ts u #[a']).run P w) dv s' := by
  unfold opLenMap at h
  cases he : entriesD s a with
  | none => rw [he] at h; cases h
  | some es =>
    rw [he] at h
    injection h with h; injection h with h1 h2; subst h1; subst h2
    rcases entries_sound hR ha he with ⟨rfl, rfl⟩ | ⟨r, en, clock, rfl, hr, hE⟩
    · simp only [Builtin.len_, ht, idx0, Sem.run_bind, run_underlying' hu, Result.andThen_ok, Sem.run_pure, goInt]; exact DoesV.same hR (.int _ _)
    · have hl := hE.length
      simp only [Builtin.len_, ht, idx0, Sem.run_bind, run_underlying' hu, Result.andThen_ok, Sem.run_pure, goInt, hr, len_eq]
      rw [hl]
      exact DoesV.same hR (.int _ _)

theorem s_min (hR : R P ρ s w) {ts : Array TypeId} {t : Nat} {a b dv : DV} {a' b' : Value} {s' : St} (ha : VR ρ a a') (hb : VR ρ b b') (h : opMin s a b = some (dv, s')) :
    DoesV P ρ s w ((Builtin.min_ ts t #[a', b']).run P w) dv s' := by
  unfold opMin at h
  split at h
  · have e1 := int_eq ha; have e2 := int_eq hb; subst e1; subst e2
    rw [iLt_eq] at h
    injection h with h; injection h with h1 h2; subst h1; subst h2
    simp only [Builtin.min_, List.foldlM, Builtin.min2, Sem.run_bind, Sem.run_pure, Result.andThen_ok]
    rename_i k x k' y
    by_cases hlt : y < x
    · simp only [hlt, decide_true, cond_true, if_true]; exact DoesV.same hR (.int _ _)
    · simp only [hlt, decide_false, cond_false, if_false]; exact DoesV.same hR (.int _ _)
  · cases h

theorem s_max (hR : R P ρ s w) {ts : Array TypeId} {t : Nat} {a b dv : DV} {a' b' : Value} {s' : St} (ha : VR ρ a a') (hb : VR ρ b b') (h : opMax s a b = some (dv, s')) :
    DoesV P ρ s w ((Builtin.max_ ts t #[a', b']).run P w) dv s' := by
  unfold opMax at h
  split at h
  · have e1 := int_eq ha; have e2 := int_eq hb; subst e1; subst e2
    rw [iLt_eq] at h
    injection h with h; injection h with h1 h2; subst h1; subst h2
    simp only [Builtin.max_, List.foldlM, Builtin.max2, Sem.run_bind, Sem.run_pure, Result.andThen_ok]
    rename_i k x k' y
    by_cases hlt : x < y
    · simp only [hlt, decide_true, cond_true, gt_iff_lt, if_true]; exact DoesV.same hR (.int _ _)
    · simp only [hlt, decide_false, cond_false, gt_iff_lt, if_false]; exact DoesV.same hR (.int _ _)
  · cases h

theorem s_makeMap (hR : R P ρ s w) (t : Nat) : DoesV P ρ s w ((Instr.makeMap t none).run P w) (.map (some s.next)) (alloc s (.map [])) := by
  have hw := R.alloc hR (.map []) (.map #[] 0) ⟨w.heap.size, 0, 0, 0⟩ rfl (Alike.refl _) ⟨#[], 0, by show (w.heap.push _)[w.heap.size]? = _; simp, .nil⟩ trivial
  refine ⟨_, _, .map (some w.heap.size), ?_, VR.map (x := ⟨w.heap.size, 0, 0, 0⟩) (upd_self _ _ _), hw⟩
  simp only [Instr.makeMap, Sem.run_bind, Sem.run_pure, Result.andThen_ok, run_newObj, World.alloc_eq]

theorem s_makeSlice (hR : R P ρ s w) {t e n : Nat} {z : List DV} {l c dv : DV} {l' c' : Value} {s' : St} (hu : P.underlying t = some (.slice e)) (hf : fewBytes P e = some ()) (hz : zeroCellsC P e = some (z, n)) (hl : VR ρ l l') (hc : VR ρ c c')
    (h : opMakeSlice s e n z l c = some (dv, s')) : DoesV P ρ s w ((Instr.makeSlice t l' c').run P w) dv s' := by
  obtain ⟨d, h1, rfl, h3, h4, h5⟩ := zeroCellsC_sound hz
  obtain ⟨ti, v, hi, hzv, hv, hrun⟩ := zeroC_sound h1
  have hV := (ofValue_sound (ρ := ρ) v d hv).cells
  have hvs : v.cells.size = n := by have := hV.length; simp at this; omega
  have hbytes : ti.bytes ≤ 4096 := by
    unfold fewBytes bytesC at hf
    rw [hi] at hf
    rcases Bool.eq_false_or_eq_true (Nat.ble ti.bytes 4096) with h0 | h0
    · exact Nat.le_of_ble_eq_true h0
    · simp [h0] at hf
  unfold opMakeSlice at h
  split at h
  · rename_i p q hp hq
    rcases Bool.eq_false_or_eq_true (Nat.ble p q) with h0 | h0
    · rw [bif_true h0] at h; injection h with h; injection h with e1 e2; subst e1; subst e2
      have hpq := Nat.le_of_ble_eq_true h0
      obtain ⟨k, rfl, hp'⟩ := natIn_eq hl hp
      obtain ⟨j, rfl, hq'⟩ := natIn_eq hc hq
      have hmost : most = 2147483648 := by unfold most; rfl
      have w1 : IntKind.i64.wrap (p : Int) = p := IntWalk.i64_in _ ⟨by omega, by omega⟩
      have w2 : IntKind.i64.wrap (q : Int) = q := IntWalk.i64_in _ ⟨by omega, by omega⟩
      have hrep := rep_sound hV (by omega) q
      rw [hvs] at hrep
      have hle := rep_sound hV (by omega) p
      rw [hvs] at hle
      have hlen : (repCells d.cells p).length = p * n := by rw [repCells_length, h4]
      have htk : ((Array.range (q * n)).map fun i => v.cells[i % n]!).toList.take (p * n) = ((Array.range (p * n)).map fun i => v.cells[i % n]!).toList := by
        have hpn : p * n ≤ q * n := Nat.mul_le_mul_right _ hpq
        apply List.ext_getElem?
        intro i
        rw [List.getElem?_take]
        by_cases hi : i < p * n
        · simp [hi, show i < q * n by omega]
        · simp [hi]
      have hw := new_row hR e n (cs := repCells d.cells p) (vs := (Array.range (q * n)).map fun i => v.cells[i % n]!) (by rw [hlen]; simp; exact Nat.mul_le_mul_right _ hpq)
        (by rw [hlen, htk]; exact hle) (Alike.refl _) (fun h => absurd h (by rw [selfC_of hz]; exact Bool.false_ne_true))
      refine ⟨_, _, .slice (some ⟨w.heap.size, 0, none⟩) p q, ?_, ?_, hw⟩
      · have hb1 : ¬ ((ti.bytes : Int) * (q : Int) > 2 ^ 48) := by
          have : ti.bytes * q ≤ 4096 * 2147483648 := Nat.mul_le_mul hbytes (by omega)
          have h2 : ((ti.bytes * q : Nat) : Int) ≤ 8796093022208 := by omega
          rw [Int.natCast_mul] at h2
          have : (2 : Int) ^ 48 = 281474976710656 := by decide
          omega
        have ht : ((decide ((q : Int) < 0) || decide ((ti.bytes : Int) * (q : Int) > 2 ^ 48)) || decide ((p : Int) < 0) || decide ((p : Int) > (q : Int))) = false := by
          simp only [Bool.or_eq_false_iff, decide_eq_false_iff_not]
          refine ⟨⟨⟨by omega, hb1⟩, by omega⟩, by omega⟩
        simp only [Instr.makeSlice, Sem.run_bind, run_underlying' hu, Result.andThen_ok, asInt, asIntOf, Sem.run_pure, run_typeInfo' hi, w1, w2]
        rw [if_neg (by rw [ht]; simp)]
        simp only [Sem.run_bind, run_askRoom, Result.andThen_ok, Int.toNat_natCast, run_sizeOf' h3, Sem.run_pure]
        by_cases hqn : q * n = 0
        · have hq0 : q = 0 := by rcases Nat.mul_eq_zero.1 hqn with h | h <;> omega
          subst hq0
          have e0 : ∀ f : Nat → Value, (Array.range 0).map f = #[] := fun f => by apply Array.ext'; simp
          simp [newRow, e0]
        · simp only [hqn, if_false, Sem.run_bind, hrun, Result.andThen_ok, Sem.run_pure, hvs]
          simp [newRow]
      · have := VR.slice (ρ := upd ρ s.next ⟨w.heap.size, 0, ((Array.range (q * n)).map fun i => v.cells[i % n]!).size, n⟩) (b := s.next) (o := 0) (n := p) (c := q) (upd_self _ _ _) hpq (by simp)
        simpa using this
    · rw [bif_false h0] at h; cases h
  · cases h
end
end Go.D
namespace Go.D
open Go

section
variable {P : Program} {ρ : Mp} {s : St} {w : World}

theorem barr_eq {p q : ByteArray} (h : p.data.toList = q.data.toList) : p = q := by
  have : p.data = q.data := by apply Array.ext'; exact h
  cases p; cases q; simp_all
theorem barr_beq (p q : ByteArray) : (p == q) = (p.data.toList == q.data.toList) := by
  have h1 : (p == q) = (p.data == q.data) := rfl
  rw [h1]
  cases p with | mk a => cases q with | mk b => cases a with | mk x => cases b with | mk y => simp

theorem checkKey_ok {d : TypeDesc} {t : TypeId} {v : Value} (hu : P.underlying t = some d) (hk : ∃ q a, isKey q a = true ∧ VR ρ a v) (hd : ∀ ms, d ≠ .interface ms) (hs : ∀ fs, d ≠ .struct fs) (ha : ∀ n e, d ≠ .array n e)
    (b : Bool) : (Instr.checkKey b 10000 t v).run P w = .ok () w := by
  have e : Instr.checkKey b 10000 t v = Instr.checkKey b (9999 + 1) t v := rfl
  rw [e]
  unfold Instr.checkKey
  simp only [Sem.run_bind, run_underlying' hu, Result.andThen_ok]
  obtain ⟨q, a, hk, hv⟩ := hk
  cases d with
  | interface ms => exact absurd rfl (hd ms)
  | struct fs => exact absurd rfl (hs fs)
  | array n e => exact absurd rfl (ha n e)
  | _ => cases hv <;> first | rfl | (unfold isKey at hk; split at hk <;> simp_all; done)

/-- the kinds of keys that D compares -/
def KeyT (d : TypeDesc) (a : DV) : Prop := match d, a with
  | .int _, .int _ _ => True
  | .string, .str _ => True
  | .bool, .bool _ => True
  | _, _ => False

theorem keyTag_sound {t q : Nat} {a : DV} (h : keyTag P t = some q) (hk : isKey q a = true) : ∃ d, P.underlying t = some d ∧ KeyT d a := by
  unfold keyTag at h
  split at h
  · injection h with h; subst h; refine ⟨_, ‹_›, ?_⟩; cases a <;> first | trivial | cases hk
  · injection h with h; subst h; refine ⟨_, ‹_›, ?_⟩; cases a <;> first | trivial | cases hk
  · injection h with h; subst h; refine ⟨_, ‹_›, ?_⟩; cases a <;> first | trivial | cases hk
  · cases h

theorem sameNow_sound {d : TypeDesc} {a b : DV} {a' b' : Value} {r : Bool} (hd : KeyT d a) (ha : VR ρ a a') (hb : VR ρ b b') (h : keyEq a b = some r) : Instr.sameNow d a' b' = some r := by
  unfold keyEq at h
  split at h
  · have e1 := int_eq ha; have e2 := int_eq hb; subst e1; subst e2
    rename_i k x j y
    rcases Bool.eq_false_or_eq_true (ikEq k j) with h0 | h0
    · rw [bif_true h0, iEq_eq] at h
      have := ikEq_eq _ _ h0; subst this
      cases d with
      | int q => simp only [Instr.sameNow, if_true]; exact h
      | _ => exact hd.elim
    · rw [bif_false h0] at h; cases h
  · obtain ⟨p, rfl, rfl⟩ := str_eq ha
    obtain ⟨q, rfl, rfl⟩ := str_eq hb
    rw [nlEq_eq] at h
    cases d with
    | string =>
      simp only [Instr.sameNow]
      rw [← h]
      congr 1
      exact barr_beq p q
    | _ => exact hd.elim
  · have e1 := bool_eq ha; have e2 := bool_eq hb; subst e1; subst e2
    cases d with
    | bool => simp only [Instr.sameNow]; exact h
    | _ => exact hd.elim
  · cases h

theorem findNow_sound {d : TypeDesc} {a : DV} {a' : Value} (hd : KeyT d a) (ha : VR ρ a a') : ∀ {es : List (DV × DV)} {en : List MapEntry} (_ : ERs ρ es en) (i : Nat) {r : Option DV}, findMap a es = some r →
    match r with
    | none => Instr.findNow d a' en i = some none
    | some v => ∃ j v', Instr.findNow d a' en i = some (some (i + j, v')) ∧ VR ρ v v' ∧ j < en.length := by
  intro es en hE
  induction hE with
  | nil => intro i r h; simp only [findMap] at h; injection h with h; subst h; rfl
  | @cons k v e l l' hk hv t ih =>
    intro i r h
    simp only [findMap] at h
    split at h
    · rename_i hq
      injection h with h; subst h
      have := sameNow_sound hd ha hk hq
      exact ⟨0, _, by simp only [Instr.findNow, this, Nat.add_zero], hv, by simp⟩
    · rename_i hq
      have h1 := sameNow_sound hd ha hk hq
      have := ih (i + 1) h
      cases r with
      | none => simp only [Instr.findNow, h1]; exact this
      | some v =>
        obtain ⟨j, v', q1, q2, q3⟩ := this
        exact ⟨j + 1, v', by simp only [Instr.findNow, h1, q1]; congr 3; omega, q2, by simp; omega⟩
    · cases h

theorem keyT_simple {d : TypeDesc} {a : DV} (h : KeyT d a) : (∀ ms, d ≠ .interface ms) ∧ (∀ fs, d ≠ .struct fs) ∧ (∀ n e, d ≠ .array n e) := by
  unfold KeyT at h
  split at h
  · exact ⟨by simp, by simp, by simp⟩
  · exact ⟨by simp, by simp, by simp⟩
  · exact ⟨by simp, by simp, by simp⟩
  · exact h.elim

theorem answer_sound {ok : Bool} {v : DV} {v' : Value} {b : Bool} (h : VR ρ v v') : VR ρ (answerD ok v b) (if ok then .tuple #[v', .bool b] else v') := by
  cases ok with
  | true => exact .tuple (.cons h (.cons (.bool b) .nil))
  | false => exact h

theorem s_lookup (hR : R P ρ s w) {t kt et q : Nat} {z m k dv : DV} {m' k' : Value} {ok : Bool} {s' : St} (hu : P.underlying t = some (.map kt et)) (hq : keyTag P kt = some q)
    (hz : zeroC P et = some z) (hm : VR ρ m m') (hk : VR ρ k k') (h : opLookup s q z ok m k = some (dv, s')) : DoesV P ρ s w ((Instr.lookup t m' k' ok).run P w) dv s' := by
  obtain ⟨ti, zv, hi, hzv, hv, hrun⟩ := zeroC_sound hz
  have hzr : VR ρ z zv := ofValue_sound zv z hv
  unfold opLookup at h
  rcases Bool.eq_false_or_eq_true (isKey q k) with n4 | n4
  case inr => rw [bif_false n4] at h; cases h
  rw [bif_true n4] at h
  obtain ⟨kd, hku, hkt⟩ := keyTag_sound hq n4
  obtain ⟨n1, n2, n3⟩ := keyT_simple hkt
  split at h
  · rename_i es he
    have hck : ∀ b, (Instr.checkKey b 10000 kt k').run P w = .ok () w := fun b => checkKey_ok hku ⟨q, k, n4, hk⟩ n1 n2 n3 b
    rcases entries_sound hR hm he with ⟨rfl, rfl⟩ | ⟨r, en, clock, rfl, hr, hE⟩
    · simp only [findMap] at h
      injection h with h; injection h with h1 h2; subst h1; subst h2
      simp only [Instr.lookup, Sem.run_bind, run_underlying' hu, Result.andThen_ok, Sem.run_pure, hck, Instr.findKey, run_underlying' hku, Instr.findNow, hrun]
      have := answer_sound (ok := ok) (b := false) hzr
      cases ok <;> exact DoesV.same hR this
    · split at h
      · rename_i v hf
        injection h with h; injection h with h1 h2; subst h1; subst h2
        obtain ⟨j, v', q1, q2, q3⟩ := findNow_sound hkt hk hE 0 hf
        simp only [Instr.lookup, Sem.run_bind, run_underlying' hu, Result.andThen_ok, Sem.run_pure, hr, hck, Instr.findKey, run_underlying' hku, q1]
        have := answer_sound (ok := ok) (b := true) q2
        cases ok <;> exact DoesV.same hR this
      · rename_i hf
        injection h with h; injection h with h1 h2; subst h1; subst h2
        have q1 := findNow_sound hkt hk hE 0 hf
        simp only at q1
        simp only [Instr.lookup, Sem.run_bind, run_underlying' hu, Result.andThen_ok, Sem.run_pure, hr, hck, Instr.findKey, run_underlying' hku, q1, hrun]
        have := answer_sound (ok := ok) (b := false) hzr
        cases ok <;> exact DoesV.same hR this
      · cases h
  · cases h

theorem sameBits_key {a b : DV} {a' b' : Value} (ha : VR ρ a a') (hb : VR ρ b b') (h : keyEq a b = some true) : Instr.sameBits 10000 b' a' = true := by
  have e : Instr.sameBits 10000 b' a' = Instr.sameBits (9999 + 1) b' a' := rfl
  rw [e]
  unfold keyEq at h
  split at h
  · have e1 := int_eq ha; have e2 := int_eq hb; subst e1; subst e2
    rename_i k x j y
    rcases Bool.eq_false_or_eq_true (ikEq k j) with h0 | h0
    · rw [bif_true h0, iEq_eq] at h
      have := ikEq_eq _ _ h0; subst this
      injection h with h
      have : x = y := by simpa using h
      subst this
      simp [Instr.sameBits]
    · rw [bif_false h0] at h; cases h
  · obtain ⟨p, rfl, rfl⟩ := str_eq ha
    obtain ⟨q, rfl, rfl⟩ := str_eq hb
    rw [nlEq_eq] at h
    injection h with h
    have hh : p.data.toList = q.data.toList := by simpa using h
    have := barr_eq hh
    subst this
    simp [Instr.sameBits, barr_beq]
  · have e1 := bool_eq ha; have e2 := bool_eq hb; subst e1; subst e2
    injection h with h
    have := of_decide_eq_true (p := _) (by simpa using h)
    simp_all [Instr.sameBits]
  · cases h

theorem putMap_sound {d : TypeDesc} {a v : DV} {a' v' : Value} (hd : KeyT d a) (ha : VR ρ a a') (hv : VR ρ v v') : ∀ {es : List (DV × DV)} {en : List MapEntry} (_ : ERs ρ es en) (i : Nat) {l : List (DV × DV)}, putMap a v es = some l →
    (Instr.findNow d a' en i = some none ∧ ∀ born, ERs ρ l (en ++ [{ key := a', val := v', born }])) ∨
    (∃ j e u, Instr.findNow d a' en i = some (some (i + j, u)) ∧ en[j]? = some e ∧ Instr.sameBits 10000 e.key a' = true ∧ ERs ρ l (en.set j { e with key := a', val := v' })) := by
  intro es en hE
  induction hE with
  | nil =>
    intro i l h; simp only [putMap] at h; injection h with h; subst h
    exact .inl ⟨rfl, fun born => .cons ha hv .nil⟩
  | @cons k u e l l' hk hu t ih =>
    intro i m h
    simp only [putMap] at h
    split at h
    · rename_i hq
      injection h with h; subst h
      have h1 := sameNow_sound hd ha hk hq
      exact .inr ⟨0, e, e.val, by simp only [Instr.findNow, h1, Nat.add_zero], by simp, sameBits_key ha hk hq, .cons ha hv t⟩
    · rename_i hq
      have h1 := sameNow_sound hd ha hk hq
      split at h
      · rename_i q hput
        injection h with h; subst h
        rcases ih (i + 1) hput with ⟨q1, q2⟩ | ⟨j, e', u', q1, q2, q3, q4⟩
        · exact .inl ⟨by simp only [Instr.findNow, h1, q1], fun born => .cons hk hu (q2 born)⟩
        · exact .inr ⟨j + 1, e', u', by simp only [Instr.findNow, h1, q1]; congr 3; omega, by simpa using q2, q3, .cons hk hu q4⟩
      · cases h
    · cases h

theorem s_mapPut (hR : R P ρ s w) {t kt et q : Nat} {m k x dv : DV} {m' k' x' : Value} {s' : St} (hu : P.underlying t = some (.map kt et)) (hq : keyTag P kt = some q)
    (hm : VR ρ m m') (hk : VR ρ k k') (hx : VR ρ x x') (h : opMapPut s q m k x = some (dv, s')) : DoesU P ρ s w ((Instr.mapUpdate t m' k' x').run P w) s' ∧ dv = undefD := by
  unfold opMapPut at h
  rcases Bool.eq_false_or_eq_true (isKey q k) with n4 | n4
  case inr => rw [bif_false n4] at h; cases h
  rw [bif_true n4] at h
  obtain ⟨kd, hku, hkt⟩ := keyTag_sound hq n4
  obtain ⟨n1, n2, n3⟩ := keyT_simple hkt
  split at h
  · rename_i r
    split at h
    · rename_i es hg
      split at h
      · rename_i l hl
        injection h with h; injection h with h1 h2; subst h1; subst h2
        refine ⟨?_, rfl⟩
        cases hm with
        | @map _ y hb =>
          obtain ⟨en, clock, g1, g2⟩ := hR.obj r y _ hb hg
          have hget : (getObj y.blk).run P w = .ok (.map en clock) w := by simp [getObj, Sem.run, g1]
          have hck : ∀ b, (Instr.checkKey b 10000 kt k').run P w = .ok () w := fun b => checkKey_ok hku ⟨q, k, n4, hk⟩ n1 n2 n3 b
          have hlt := hR.there r y hb
          have hset : ∀ o : Obj, (setObj y.blk o).run P w = .ok () { w with heap := w.heap.setIfInBounds y.blk o } := by
            intro o; simp [setObj, Sem.run, g1]
          have hdone : ∀ (en' : Array MapEntry) (c : Nat), ERs ρ l en'.toList → Went P ρ s w ρ (setB s r (.map l)) { w with heap := w.heap.setIfInBounds y.blk (.map en' c) } := by
            intro en' c hE'
            refine R.write hR hb ⟨_, hg, by simp⟩ _ rfl rfl rfl (by simp) ?_ ⟨en', c, ?_, hE'⟩ trivial (fun _ _ _ he => by cases he)
            · intro j hj
              show (w.heap.setIfInBounds y.blk _)[j]? = _
              rw [Array.getElem?_setIfInBounds_ne (Ne.symm hj)]
            · show (w.heap.setIfInBounds y.blk _)[y.blk]? = _
              rw [Array.getElem?_setIfInBounds_self_of_lt hlt]
          rcases putMap_sound hkt hk hx g2 0 hl with ⟨q1, q2⟩ | ⟨j, e, u, q1, q2, q3, q4⟩
          · refine ⟨ρ, _, ?_, hdone (en.push { key := k', val := x', born := clock }) (clock + 1) (by simpa using q2 clock)⟩
            simp only [Instr.mapUpdate, Sem.run_bind, run_underlying' hu, Result.andThen_ok, hget, hck, Instr.findKey, run_underlying' hku, q1, Sem.run_pure, hset]
          · rw [Nat.zero_add] at q1
            have hj : j < en.size := by
              rcases Nat.lt_or_ge j en.size with h | h
              · exact h
              · rw [List.getElem?_eq_none (by simpa using h)] at q2; cases q2
            have hen : en[j]? = some e := by simpa using q2
            refine ⟨ρ, _, ?_, hdone (en.modify j fun e => { e with key := k', val := x' }) clock ?_⟩
            · simp only [Instr.mapUpdate, Sem.run_bind, run_underlying' hu, Result.andThen_ok, hget, hck, Instr.findKey, run_underlying' hku, q1, Sem.run_pure, hen, Option.map_some, Option.getD_some, Instr.keyThatStays, q3, if_true, hset]
            · have : (en.modify j fun e => { e with key := k', val := x' }).toList = en.toList.set j { e with key := k', val := x' } := by
                apply List.ext_getElem?
                intro i
                rw [List.getElem?_set]
                simp only [Array.getElem?_toList, Array.getElem?_modify, Array.length_toList]
                by_cases hij : j = i
                · subst hij
                  have he : en[j] = e := by rw [Array.getElem?_eq_getElem hj] at hen; injection hen
                  simp [hj, he]
                · simp [hij]
              rw [this]; exact q4
      · cases h
    · cases h
  · cases h

theorem s_range (hR : R P ρ s w) {t : Nat} {a dv : DV} {a' : Value} {s' : St} (hu : P.underlying t = some .string) (ha : VR ρ a a') (h : opRange s a = some (dv, s')) : DoesV P ρ s w ((Instr.range t a').run P w) dv s' := by
  unfold opRange at h
  split at h
  · obtain ⟨p, rfl, rfl⟩ := str_eq ha
    injection h with h; injection h with h1 h2; subst h1; subst h2
    have hw := R.alloc hR (.iter (p.data.toList.map UInt8.toNat) 0) (.stringIter p 0) ⟨w.heap.size, 0, 0, 0⟩ rfl (Alike.refl _) ⟨p, by show (w.heap.push _)[w.heap.size]? = _; simp, rfl, rfl⟩ trivial
    refine ⟨_, _, .pointer (some ⟨w.heap.size, 0, none⟩), ?_, ?_, hw⟩
    · simp only [Instr.range, Sem.run_bind, run_underlying' hu, Result.andThen_ok, Sem.run_pure, run_newObj, World.alloc_eq]
    · have := VR.ptr (ρ := upd ρ s.next ⟨w.heap.size, 0, 0, 0⟩) (b := s.next) (o := 0) (upd_self _ _ _)
      simpa using this
  · cases h
end
end Go.D
namespace Go.D
open Go

section
variable {P : Program} {ρ : Mp} {s : St} {w : World}

theorem contB_eq (p : ByteArray) (i : Nat) : contB ((p.data.toList.map UInt8.toNat).drop i) = if i < p.size && (p.get! i).toNat / 64 == 2 then some ((p.get! i).toNat % 64) else none := by
  by_cases h : i < p.size
  · have hd : (p.data.toList.map UInt8.toNat).drop i = (p.get! i).toNat :: (p.data.toList.map UInt8.toNat).drop (i + 1) := by
      rw [List.drop_eq_getElem_cons (by rw [map_length_str]; exact h)]
      congr 1
      simp only [List.getElem_map, ByteArray.get!]
      have : p.data.size = p.size := rfl
      simp [h, this]
    rw [hd]
    simp only [contB]
    have e1 : Nat.shiftRight (p.get! i).toNat 6 = (p.get! i).toNat / 64 := by
      show (p.get! i).toNat >>> 6 = _
      rw [Nat.shiftRight_eq_div_pow]
    have e2 : Nat.land (p.get! i).toNat 63 = (p.get! i).toNat % 64 := by
      have := Nat.and_two_pow_sub_one_eq_mod (p.get! i).toNat 6
      exact this
    rw [e1, e2]
    by_cases hq : (p.get! i).toNat / 64 = 2
    · simp [h, hq, Nat.beq_refl]
    · have hb : Nat.beq ((p.get! i).toNat / 64) 2 = false := by
        cases hb : Nat.beq ((p.get! i).toNat / 64) 2 with
        | false => rfl
        | true => exact absurd (Nat.eq_of_beq_eq_true hb) hq
      simp [hq, hb]
  · rw [List.drop_eq_nil_of_le (by rw [map_length_str]; omega)]
    simp [contB, h]

theorem beq_eq (a b : Nat) : Nat.beq a b = decide (a = b) := by
  by_cases h : a = b
  · subst h; simp [Nat.beq_refl]
  · have : Nat.beq a b = false := by
      cases hb : Nat.beq a b with
      | false => rfl
      | true => exact absurd (Nat.eq_of_beq_eq_true hb) h
    simp [this, h]

theorem valid3 (c : Nat) (h1 : c ≤ 65535) (h2 : 2048 ≤ c) : (decide (c ≤ 55295) || decide (57344 ≤ c)) = Utf8.valid (c : Int) := by
  have _ := h2
  unfold Utf8.valid
  rw [Bool.eq_iff_iff]
  simp only [decide_eq_true_eq, Bool.or_eq_true, Bool.and_eq_true]
  omega
theorem valid4 (c : Nat) (h1 : 65536 ≤ c) : decide (c ≤ 1114111) = Utf8.valid (c : Int) := by
  unfold Utf8.valid
  rw [Bool.eq_iff_iff]
  simp only [decide_eq_true_eq, Bool.or_eq_true, Bool.and_eq_true]
  omega

theorem if_eq_bif {α : Type} (c : Bool) (p : Prop) [Decidable p] (h : c = decide p) (a b : α) : (bif c then a else b) = if p then a else b := by
  subst h
  by_cases hp : p
  · simp [hp]
  · simp [hp]

theorem two_eq (c : Nat) : (bif Nat.ble 128 c then (c, 2) else (65533, 1)) = if c ≥ 0x80 then (c, 2) else (Utf8.runeError, 1) :=
  if_eq_bif _ _ (by rw [ble_eq]) _ _
theorem three_eq (c : Nat) (h : c ≤ 65535) : (bif Nat.ble 2048 c && (Nat.ble c 55295 || Nat.ble 57344 c) then (c, 3) else (65533, 1)) = if (c ≥ 0x800 && Utf8.valid (c : Int)) = true then (c, 3) else (Utf8.runeError, 1) := by
  refine if_eq_bif _ _ ?_ _ _
  rw [ble_eq, ble_eq, ble_eq]
  by_cases h2 : 2048 ≤ c
  · rw [valid3 c h h2]; simp [h2]
  · simp [h2]
theorem four_eq (c : Nat) : (bif Nat.ble 65536 c && Nat.ble c 1114111 then (c, 4) else (65533, 1)) = if (c ≥ 0x10000 && Utf8.valid (c : Int)) = true then (c, 4) else (Utf8.runeError, 1) := by
  refine if_eq_bif _ _ ?_ _ _
  rw [ble_eq, ble_eq]
  by_cases h2 : 65536 ≤ c
  · rw [valid4 c h2]; simp [h2]
  · simp [h2]

def decM (b0 b1 b2 b3 : Nat) (q1 q2 q3 : Bool) : Nat × Nat :=
  if b0 < 0x80 then (b0, 1)
  else if b0 / 32 == 6 && q1 then
    let c := (b0 % 32) * 64 + b1 % 64
    if c ≥ 0x80 then (c, 2) else (Utf8.runeError, 1)
  else if b0 / 16 == 14 && q1 && q2 then
    let c := (b0 % 16) * 4096 + (b1 % 64) * 64 + b2 % 64
    if c ≥ 0x800 && Utf8.valid c then (c, 3) else (Utf8.runeError, 1)
  else if b0 / 8 == 30 && q1 && q2 && q3 then
    let c := (b0 % 8) * 262144 + (b1 % 64) * 4096 + (b2 % 64) * 64 + b3 % 64
    if c ≥ 0x10000 && Utf8.valid c then (c, 4) else (Utf8.runeError, 1)
  else (Utf8.runeError, 1)
def decO (b0 : Nat) (o1 o2 o3 : Option Nat) : Nat × Nat :=
  bif Nat.ble b0 127 then (b0, 1)
    else bif Nat.beq (b0 / 32) 6 then
      match o1 with
      | some c1 => let c := (b0 % 32) * 64 + c1
        bif Nat.ble 128 c then (c, 2) else (65533, 1)
      | none => (65533, 1)
    else bif Nat.beq (b0 / 16) 14 then
      match o1, o2 with
      | some c1, some c2 => let c := (b0 % 16) * 4096 + c1 * 64 + c2
        bif Nat.ble 2048 c && (Nat.ble c 55295 || Nat.ble 57344 c) then (c, 3) else (65533, 1)
      | _, _ => (65533, 1)
    else bif Nat.beq (b0 / 8) 30 then
      match o1, o2, o3 with
      | some c1, some c2, some c3 => let c := (b0 % 8) * 262144 + c1 * 4096 + c2 * 64 + c3
        bif Nat.ble 65536 c && Nat.ble c 1114111 then (c, 4) else (65533, 1)
      | _, _, _ => (65533, 1)
    else (65533, 1)

theorem dec_same (b0 b1 b2 b3 : Nat) (q1 q2 q3 : Bool) (hb0 : b0 < 256) :
    decO b0 (if q1 then some (b1 % 64) else none) (if q2 then some (b2 % 64) else none) (if q3 then some (b3 % 64) else none) = decM b0 b1 b2 b3 q1 q2 q3 := by
  unfold decO decM
  by_cases c0 : b0 < 128
  · rw [bif_true (by rw [ble_eq]; simp; omega), if_pos c0]
  · rw [bif_false (by rw [ble_eq]; simp; omega), if_neg c0]
    by_cases c1 : b0 / 32 = 6
    · rw [bif_true (by rw [beq_eq]; simp [c1])]
      have n1 : (b0 / 16 == 14) = false := by simp; omega
      have n2 : (b0 / 8 == 30) = false := by simp; omega
      have m1 : (b0 / 32 == 6) = true := by simp [c1]
      rw [n1, n2, m1]
      cases q1 with
      | true => exact two_eq _
      | false => rfl
    · rw [bif_false (by rw [beq_eq]; simp [c1])]
      have n0 : (b0 / 32 == 6) = false := by simp [c1]
      rw [n0]
      by_cases c2 : b0 / 16 = 14
      · rw [bif_true (by rw [beq_eq]; simp [c2])]
        have n2 : (b0 / 8 == 30) = false := by simp; omega
        have m2 : (b0 / 16 == 14) = true := by simp [c2]
        rw [n2, m2]
        cases q1 with
        | true => cases q2 with
          | true => exact three_eq (b0 % 16 * 4096 + b1 % 64 * 64 + b2 % 64) (by omega)
          | false => rfl
        | false => rfl
      · rw [bif_false (by rw [beq_eq]; simp [c2])]
        have n1 : (b0 / 16 == 14) = false := by simp [c2]
        rw [n1]
        by_cases c3 : b0 / 8 = 30
        · rw [bif_true (by rw [beq_eq]; simp [c3])]
          have m2 : (b0 / 8 == 30) = true := by simp [c3]
          rw [m2]
          cases q1 with
          | true => cases q2 with
            | true => cases q3 with
              | true => exact four_eq (b0 % 8 * 262144 + b1 % 64 * 4096 + b2 % 64 * 64 + b3 % 64)
              | false => rfl
            | false => rfl
          | false => rfl
        · rw [bif_false (by rw [beq_eq]; simp [c3])]
          have m2 : (b0 / 8 == 30) = false := by simp [c3]
          rw [m2]
          rfl

theorem decode_eq (p : ByteArray) (i : Nat) (h : i < p.size) : decodeD ((p.data.toList.map UInt8.toNat).drop i) = Utf8.decode p i := by
  have hd : (p.data.toList.map UInt8.toNat).drop i = (p.get! i).toNat :: (p.data.toList.map UInt8.toNat).drop (i + 1) := by
    rw [List.drop_eq_getElem_cons (by rw [map_length_str]; exact h)]
    congr 1
    simp only [List.getElem_map, ByteArray.get!]
    have : p.data.size = p.size := rfl
    simp [h, this]
  have d1 : ((p.data.toList.map UInt8.toNat).drop (i + 1)).drop 1 = (p.data.toList.map UInt8.toNat).drop (i + 2) := by rw [List.drop_drop]
  have d2 : ((p.data.toList.map UInt8.toNat).drop (i + 1)).drop 2 = (p.data.toList.map UInt8.toNat).drop (i + 3) := by rw [List.drop_drop]
  have e1 : ∀ (b : Nat) (r : List Nat), decodeD (b :: r) = decO b (contB r) (contB (r.drop 1)) (contB (r.drop 2)) := fun _ _ => rfl
  have e2 : Utf8.decode p i = decM (p.get! i).toNat (p.get! (i + 1)).toNat (p.get! (i + 2)).toNat (p.get! (i + 3)).toNat (decide (i + 1 < p.size) && (p.get! (i + 1)).toNat / 64 == 2)
      (decide (i + 2 < p.size) && (p.get! (i + 2)).toNat / 64 == 2) (decide (i + 3 < p.size) && (p.get! (i + 3)).toNat / 64 == 2) := rfl
  rw [hd, e1, e2, d1, d2, contB_eq, contB_eq, contB_eq]
  exact dec_same _ _ _ _ _ _ _ (p.get! i).toNat_lt

theorem s_next (hR : R P ρ s w) {t : Nat} {a dv : DV} {a' : Value} {s' : St} (ha : VR ρ a a') (h : opNext s a = some (dv, s')) : DoesV P ρ s w ((Instr.next a' true t).run P w) dv s' := by
  unfold opNext at h
  split at h
  · rename_i r
    split at h
    · rename_i l p hg
      cases ha with
      | @ptr _ _ y hb =>
        obtain ⟨q, g1, g2, g3⟩ := hR.obj r y _ hb hg
        subst g2
        have hget : (getObj y.blk).run P w = .ok (.stringIter q p) w := by simp [getObj, Sem.run, g1]
        have hlt := hR.there r y hb
        rw [g3]
        rw [len_eq, map_length_str] at h
        by_cases hp : p < q.size
        · rw [bif_false (by rw [ble_eq]; simp; omega)] at h
          rw [decode_eq q p hp] at h
          simp only at h
          injection h with h; injection h with h1 h2; subst h1; subst h2
          have hset : ∀ o : Obj, (setObj y.blk o).run P w = .ok () { w with heap := w.heap.setIfInBounds y.blk o } := by
            intro o; simp [setObj, Sem.run, g1]
          refine ⟨ρ, { w with heap := w.heap.setIfInBounds y.blk (.stringIter q (p + (Utf8.decode q p).2)) }, .tuple #[.bool true, .int .i64 (p : Int), .int .i32 ((Utf8.decode q p).1 : Int)], ?_, ?_, R.write hR hb ⟨_, hg, by simp⟩ _ rfl rfl rfl (by simp) ?_ ⟨q, ?_, rfl, g3⟩ trivial (fun _ _ _ he => by cases he)⟩
          · simp only [Instr.next, Sem.run_bind, hget, Result.andThen_ok, hp, if_true, hset, Sem.run_pure, goInt]
          · exact .tuple (.cons (.bool _) (.cons (.int _ _) (.cons (.int _ _) .nil)))
          · intro j hj
            show (w.heap.setIfInBounds y.blk _)[j]? = _
            rw [Array.getElem?_setIfInBounds_ne (Ne.symm hj)]
          · show (w.heap.setIfInBounds y.blk _)[y.blk]? = _
            rw [Array.getElem?_setIfInBounds_self_of_lt hlt]
        · rw [bif_true (by rw [ble_eq]; simp; omega)] at h
          injection h with h; injection h with h1 h2; subst h1; subst h2
          simp only [Instr.next, Sem.run_bind, hget, Result.andThen_ok, hp, if_false, Sem.run_pure]
          exact DoesV.same hR (.tuple (.cons (.bool _) .nil))
    · cases h
  · cases h

theorem s_assert (hR : R P ρ s w) {x t : Nat} {d : TypeDesc} {z a dv : DV} {a' : Value} {ok : Bool} {s' : St} (hu : P.underlying t = some d) (hd : ∀ ms, d ≠ .interface ms) (hz : zeroC P t = some z) (ha : VR ρ a a')
    (h : opAssert s t z ok a = some (dv, s')) : DoesV P ρ s w ((Instr.typeAssert a' x t ok).run P w) dv s' := by
  obtain ⟨ti, zv, hi, hzv, hv, hrun⟩ := zeroC_sound hz
  have hzr : VR ρ z zv := ofValue_sound zv z hv
  unfold opAssert at h
  split at h
  · cases ha
    cases ok with
    | true =>
      injection h with h; injection h with h1 h2; subst h1; subst h2
      cases d with
      | interface ms => exact absurd rfl (hd ms)
      | _ => simp only [Instr.typeAssert, Sem.run_bind, run_underlying' hu, Result.andThen_ok, if_true, hrun, Sem.run_pure]; exact DoesV.same hR (.tuple (.cons hzr (.cons (.bool _) .nil)))
    | false => cases h
  · rename_i u v
    cases ha with
    | @iface _ _ v' hv' =>
      rcases Bool.eq_false_or_eq_true (Nat.beq u t) with h0 | h0
      · rw [bif_true h0] at h
        injection h with h; injection h with h1 h2; subst h1; subst h2
        have hut := Nat.eq_of_beq_eq_true h0
        subst hut
        have := answer_sound (ok := ok) (b := true) hv'
        cases d with
        | interface ms => exact absurd rfl (hd ms)
        | _ => simp only [Instr.typeAssert, Sem.run_bind, run_underlying' hu, Result.andThen_ok, if_true, Sem.run_pure]; exact DoesV.same hR this
      · rw [bif_false h0] at h
        have hut : u ≠ t := by rw [beq_eq] at h0; simpa using h0
        cases ok with
        | true =>
          injection h with h; injection h with h1 h2; subst h1; subst h2
          cases d with
          | interface ms => exact absurd rfl (hd ms)
          | _ => simp only [Instr.typeAssert, Sem.run_bind, run_underlying' hu, Result.andThen_ok, hut, if_false, if_true, hrun, Sem.run_pure]; exact DoesV.same hR (.tuple (.cons hzr (.cons (.bool _) .nil)))
        | false => cases h
  · cases h
end
end Go.D
namespace Go.D
open Go

section
variable {P : Program} {ρ : Mp} {s : St} {w : World}

theorem most_eq : most = 2147483648 := by unfold most; rfl

theorem bytesIn_sound : ∀ {cs : List DV} {vs : List Value} {l : List Nat}, VRs ρ cs vs → bytesIn cs = some l → ∃ u : List UInt8, l = u.map UInt8.toNat ∧ vs = u.map fun b => .int .u8 b.toNat := by
  intro cs
  induction cs with
  | nil => intro vs l hV h; cases hV; simp only [bytesIn] at h; injection h with h; subst h; exact ⟨[], rfl, rfl⟩
  | cons v r ih =>
    intro vs l hV h
    cases hV with
    | cons hv t =>
      cases v with
      | int k z =>
        cases k with
        | u8 =>
          cases z with
          | ofNat n =>
            simp only [bytesIn] at h
            rcases Bool.eq_false_or_eq_true (Nat.ble n 255) with h0 | h0
            · rw [bif_true h0] at h
              split at h
              · rename_i m hm
                injection h with h; subst h
                obtain ⟨u, rfl, rfl⟩ := ih t hm
                have hn := Nat.le_of_ble_eq_true h0
                have := int_eq hv; subst this
                have e : (UInt8.ofNat n).toNat = n := by simp; omega
                exact ⟨UInt8.ofNat n :: u, by simp only [List.map_cons, e], by simp only [List.map_cons, e]; rfl⟩
              · cases h
            · rw [bif_false h0] at h; cases h
          | negSucc n => simp [bytesIn] at h
        | _ => simp [bytesIn] at h
      | _ => simp [bytesIn] at h

theorem loadN_length {b o n : Nat} {q : List DV} (hq : loadN s b o n = some q) : q.length = n := by
  unfold loadN at hq
  cases hg : getB s b with
  | none => rw [hg] at hq; cases hq
  | some ob =>
    rw [hg] at hq
    cases ob with
    | cells cs e k => obtain ⟨q1, rfl⟩ := grab_eq _ _ _ _ hq; simp; omega
    | map _ => cases hq
    | iter _ _ => cases hq
    | dead => cases hq

/-- what a slice shows, in the model -/
theorem shownSl_sound (hR : R P ρ s w) {size n : Nat} {a : Option (Nat × Nat)} {v : Value} {l : List DV} {m : Nat} (hv : VR ρ (.slice a n) v) (h : shown s size (.slice a n) = some (l, m)) :
    m = n ∧ ∃ (a' : Option Addr) (c : Nat) (vs : List Value), v = .slice a' n c ∧ VRs ρ l vs ∧ (Builtin.firstCells size n v).run P w = .ok vs.toArray w ∧ vs.length = n * size := by
  cases hv with
  | sliceNil =>
    have h : (bif Nat.beq 0 0 then some (([] : List DV), 0) else none) = some (l, m) := h
    have h : some (([] : List DV), 0) = some (l, m) := h
    injection h with h; injection h with h1 h2; subst h1; subst h2
    exact ⟨rfl, none, 0, [], rfl, .nil, rfl, by simp⟩
  | @slice b o _ c x hb hle hc =>
    simp only [shown] at h
    split at h
    · rename_i q hq
      injection h with h; injection h with h1 h2; subst h1; subst h2
      obtain ⟨vs, h1, h2⟩ := loadN_sound hR hb hq
      exact ⟨rfl, _, c, vs, rfl, h2, by simpa only [Builtin.firstCells] using h1, by rw [← h2.length]; exact loadN_length hq⟩
    · cases h
  | @sliceEmpty b o x hb a' =>
    simp only [shown] at h
    split at h
    · rename_i q hq
      injection h with h; injection h with h1 h2; subst h1; subst h2
      have hq0 : q = [] := by
        have := loadN_length hq
        simpa using this
      subst hq0
      exact ⟨rfl, some a', 0, [], rfl, .nil, by simp [Builtin.firstCells, loadCells, loadCellsFrom], by simp⟩
    · cases h

theorem foldl_push : ∀ (u : List UInt8) (acc : ByteArray), ((u.map fun b => (b.toNat : Int)).foldl (fun r n => r.push (UInt8.ofNat n.toNat)) acc) = ⟨acc.data ++ u.toArray⟩
  | [], acc => by simp
  | x :: r, acc => by
    simp only [List.map_cons, List.foldl_cons]
    have hx : UInt8.ofNat ((x.toNat : Int).toNat) = x := by simp
    rw [hx, foldl_push r]
    apply ByteArray.ext
    simp [ByteArray.push]

theorem s_ofBytes (hR : R P ρ s w) {src dst e : Nat} {a dv : DV} {a' : Value} {s' : St} (hs : P.underlying src = some (.slice e)) (hd : P.underlying dst = some .string) (he : P.underlying e = some (.int .u8)) (ha : VR ρ a a')
    (h : opOfBytes s a = some (dv, s')) : DoesV P ρ s w ((Go.convert src dst a').run P w) dv s' := by
  unfold opOfBytes at h
  split at h
  · rename_i p n
    split at h
    · rename_i cs m hsh
      split at h
      · rename_i l hl
        injection h with h; injection h with h1 h2; subst h1; subst h2
        obtain ⟨_, p', c, vs, rfl, hV, hrun, hlen⟩ := shownSl_sound hR ha hsh
        obtain ⟨u, rfl, rfl⟩ := bytesIn_sound hV hl
        simp only [Go.convert, Sem.run_bind, run_underlying' hs, run_underlying' hd, run_underlying' he, Result.andThen_ok]
        cases p' with
        | none =>
          have hu0 : u = [] := by
            have h2 : (Builtin.firstCells 1 n (.slice none n c)).run P w = .ok #[] w := rfl
            rw [h2] at hrun
            injection hrun with hrun _
            have := congrArg Array.toList hrun
            simpa using this.symm
          subst hu0
          simp only [Conv.bytesToString, Sem.run_pure]
          exact DoesV.same hR (.str .empty)
        | some q =>
          have hrun' : (loadCells q n).run P w = .ok ((u.map fun b => (b.toNat : Int)).map (Value.int .u8)).toArray w := by
            have e1 : (u.map fun b => (b.toNat : Int)).map (Value.int .u8) = u.map fun b => Value.int .u8 b.toNat := by simp
            rw [e1]; simpa [Builtin.firstCells] using hrun
          rw [run_bytesToString w q n c _ hrun', foldl_push]
          have := VR.str (ρ := ρ) (⟨ByteArray.empty.data ++ u.toArray⟩ : ByteArray)
          refine DoesV.same hR ?_
          simpa using this
      · cases h
    · cases h
  · cases h

theorem runesIn_sound : ∀ {cs : List DV} {vs : List Value} {l : List Nat}, VRs ρ cs vs → runesIn cs = some l → ∃ ns : List Int, vs = ns.map (Value.int .i32) ∧
    ∀ acc : ByteArray, (ns.foldl (fun r n => r ++ Utf8.encode n) acc).data.toList.map UInt8.toNat = acc.data.toList.map UInt8.toNat ++ l := by
  intro cs
  induction cs with
  | nil => intro vs l hV h; cases hV; simp only [runesIn] at h; injection h with h; subst h; exact ⟨[], rfl, fun acc => by simp⟩
  | cons v r ih =>
    intro vs l hV h
    cases hV with
    | cons hv t =>
      cases v with
      | int k z =>
        cases k with
        | i32 =>
          simp only [runesIn] at h
          split at h
          · rename_i m hm
            injection h with h; subst h
            obtain ⟨ns, rfl, hns⟩ := ih t hm
            have := int_eq hv; subst this
            refine ⟨z :: ns, rfl, fun acc => ?_⟩
            simp only [List.foldl_cons]
            rw [hns]
            unfold encodeD
            simp
          · cases h
        | _ => simp [runesIn] at h
      | _ => simp [runesIn] at h

theorem s_ofRunes (hR : R P ρ s w) {src dst e : Nat} {a dv : DV} {a' : Value} {s' : St} (hs : P.underlying src = some (.slice e)) (hd : P.underlying dst = some .string) (he : P.underlying e = some (.int .i32)) (ha : VR ρ a a')
    (h : opOfRunes s a = some (dv, s')) : DoesV P ρ s w ((Go.convert src dst a').run P w) dv s' := by
  unfold opOfRunes at h
  split at h
  · rename_i p n
    split at h
    · rename_i cs m hsh
      split at h
      · rename_i l hl
        injection h with h; injection h with h1 h2; subst h1; subst h2
        obtain ⟨_, p', c, vs, rfl, hV, hrun, hlen⟩ := shownSl_sound hR ha hsh
        obtain ⟨ns, rfl, hns⟩ := runesIn_sound hV hl
        simp only [Go.convert, Sem.run_bind, run_underlying' hs, run_underlying' hd, run_underlying' he, Result.andThen_ok]
        have h0 := hns .empty
        cases p' with
        | none =>
          have hu0 : ns = [] := by
            have h2 : (Builtin.firstCells 1 n (.slice none n c)).run P w = .ok #[] w := rfl
            rw [h2] at hrun
            injection hrun with hrun _
            have := congrArg Array.toList hrun
            simpa using this.symm
          subst hu0
          simp only [Conv.runesToString, Sem.run_pure]
          have := VR.str (ρ := ρ) ByteArray.empty
          refine DoesV.same hR ?_
          simp only [List.foldl_nil] at h0
          have e1 : l = [] := by simpa using h0.symm
          rw [e1]; exact this
        | some q =>
          have hrun' : (loadCells q n).run P w = .ok (ns.map (Value.int .i32)).toArray w := by simpa [Builtin.firstCells] using hrun
          rw [run_runesToString w q n c _ hrun']
          have := VR.str (ρ := ρ) (runesBytes ns)
          refine DoesV.same hR ?_
          unfold runesBytes at this ⊢
          rw [h0] at this
          simpa using this
      · cases h
    · cases h
  · cases h

theorem bytesD_eq : ∀ u : List UInt8, bytesD (u.map UInt8.toNat) = u.map fun b => .int .u8 b.toNat
  | [] => rfl
  | x :: r => by simp only [List.map_cons, bytesD, bytesD_eq r]; rfl
theorem bytesV (u : List UInt8) : VRs ρ (u.map fun b => DV.int .u8 b.toNat) (u.map fun b => Value.int .u8 b.toNat) := by
  induction u with
  | nil => exact .nil
  | cons x r ih => exact .cons (.int _ _) ih

theorem extract_all (p : ByteArray) : p.extract 0 p.size = p := by
  apply barr_eq
  rw [ByteArray.data_extract, Array.toList_extract, List.extract_eq_take_drop, List.drop_zero, Nat.sub_zero]
  exact List.take_length

/-- what is handed to append or copy, in the model -/
theorem shown_sound (hR : R P ρ s w) {size : Nat} {d : DV} {v : Value} {l : List DV} {m : Nat} (hv : VR ρ d v) (h : shown s size d = some (l, m)) :
    ∃ vs : List Value, VRs ρ l vs ∧ (Builtin.lenOf v).run P w = .ok m w ∧ (Builtin.firstCells size m v).run P w = .ok vs.toArray w ∧ vs.length = m * size := by
  cases d with
  | slice a n =>
    obtain ⟨rfl, a', c, vs, rfl, hV, hrun, hlen⟩ := shownSl_sound hR hv h
    exact ⟨vs, hV, rfl, hrun, hlen⟩
  | str l' =>
    obtain ⟨p, rfl, rfl⟩ := str_eq hv
    simp only [shown] at h
    rcases Bool.eq_false_or_eq_true (Nat.beq size 1) with h0 | h0
    · rw [bif_true h0] at h
      have h1 : size = 1 := Nat.eq_of_beq_eq_true h0
      subst h1
      injection h with h; injection h with e1 e2; subst e1; subst e2
      rw [len_eq, map_length_str, bytesD_eq]
      refine ⟨p.data.toList.map fun b => .int .u8 b.toNat, bytesV _, rfl, ?_, by rw [Nat.mul_one, List.length_map]; rfl⟩
      simp only [Builtin.firstCells, Sem.run_pure]
      rw [extract_all]
      congr 1
      apply Array.ext'
      simp
    · rw [bif_false h0] at h; cases h
  | _ => simp [shown] at h

theorem s_copy (hR : R P ρ s w) {t u e n : Nat} {ts : Array TypeId} {x y dv : DV} {x' y' : Value} {s' : St} (ht : ts[0]? = some t) (hu : P.underlying t = some (.slice e)) (hn : sizeC P e = some n) (hx : VR ρ x x') (hy : VR ρ y y')
    (h : opCopy s n x y = some (dv, s')) : DoesV P ρ s w ((Builtin.copy_ ts u #[x', y']).run P w) dv s' := by
  unfold opCopy at h
  split at h
  · rename_i a k
    split at h
    · rename_i cs m hsh
      obtain ⟨vs, hV, hlen, hrun, hvl⟩ := shown_sound hR hy hsh
      rcases Bool.eq_false_or_eq_true (Nat.ble m k) with h0 | h0
      · rw [bif_true h0] at h
        have hmk := Nat.le_of_ble_eq_true h0
        have hmin : Nat.min m k = m := Nat.min_eq_left hmk
        cases hx with
        | sliceNil =>
          injection h with h; injection h with h1 h2; subst h1; subst h2
          have hm0 : m = 0 := by omega
          subst hm0
          simp only [Builtin.copy_, ht, idx20, idx21, Sem.run_bind, run_underlying' hu, Result.andThen_ok, hlen, run_sizeOf' hn, hmin, hrun, Sem.run_pure, goInt]
          exact DoesV.same hR (.int _ _)
        | @slice b o _ c z hb hle hc =>
          simp only at h
          split at h
          · rename_i t' hst
            injection h with h; injection h with h1 h2; subst h1; subst h2
            obtain ⟨ρ', w', r1, r2⟩ := storeN_sound hR hb hV hst
            refine ⟨ρ', w', .int .i64 m, ?_, .int _ _, r2⟩
            simp only [Builtin.copy_, ht, idx20, idx21, Sem.run_bind, run_underlying' hu, Result.andThen_ok, hlen, run_sizeOf' hn, hmin, hrun, r1, Sem.run_pure, goInt]
          · cases h
        | @sliceEmpty b o z hb a' =>
          have hm0 : m = 0 := by omega
          subst hm0
          simp only at h
          split at h
          · rename_i t' hst
            injection h with h; injection h with h1 h2; subst h1; subst h2
            have hvs : vs = [] := by simpa using hvl
            subst hvs
            obtain ⟨ρ', w', r1, r2⟩ := storeN_sound hR hb hV hst
            have r1' : w' = w := by
              simp only [storeCells, Sem.run_pure] at r1
              injection r1 with _ r1; exact r1.symm
            subst r1'
            refine ⟨ρ', w', .int .i64 (0 : Nat), ?_, .int _ _, r2⟩
            simp only [Builtin.copy_, ht, idx20, idx21, Sem.run_bind, run_underlying' hu, Result.andThen_ok, hlen, run_sizeOf' hn, hmin, hrun, storeCells, Sem.run_pure, goInt]
          · cases h
      · rw [bif_false h0] at h; cases h
    · cases h
  · cases h

theorem push_modify {α : Type} (a : Array α) (x : α) (f : α → α) : (a.push x).modify a.size f = a.push (f x) := by
  apply Array.ext_getElem?
  intro i
  rw [Array.getElem?_modify, Array.getElem?_push, Array.getElem?_push]
  by_cases h : a.size = i
  · subst h; simp
  · simp [h, Ne.symm h]

theorem s_bytesOf (hR : R P ρ s w) {src dst e : Nat} {a dv : DV} {a' : Value} {s' : St} (hs : P.underlying src = some .string) (hd : P.underlying dst = some (.slice e)) (he : P.underlying e = some (.int .u8)) (ha : VR ρ a a')
    (h : opBytesOf s e a = some (dv, s')) : DoesV P ρ s w ((Go.convert src dst a').run P w) dv s' := by
  unfold opBytesOf at h
  split at h
  · obtain ⟨p, rfl, rfl⟩ := str_eq ha
    rw [len_eq, map_length_str] at h
    rcases Bool.eq_false_or_eq_true (Nat.ble p.size most) with h0 | h0
    · rw [bif_true h0] at h
      injection h with h; injection h with h1 h2; subst h1; subst h2
      have hle := Nat.le_of_ble_eq_true h0
      rw [most_eq] at hle
      -- the capacity that is drawn
      have hch : ∃ cap, p.size ≤ cap ∧ ∀ w : World, ∃ cap, p.size ≤ cap ∧ (choose (.appendCap p.size 0 e)).run P w = .ok cap w.drew := by
        refine ⟨p.size, Nat.le_refl _, fun w => ⟨_, ?_, by simp only [run_choose, Question.forced, Bool.false_eq_true, if_false]; rfl⟩⟩
        simp only [Question.cut]
        omega
      obtain ⟨_, _, hch⟩ := hch
      obtain ⟨cap, hcap, hrun⟩ := hch w
      have hcells : (p.data.map fun b => Value.int .u8 b.toNat).toList = p.data.toList.map fun b => Value.int .u8 b.toNat := by simp
      have hl : (p.data.map fun b => Value.int .u8 b.toNat).size = p.size := Array.size_map ..
      -- the row with its mark
      let arr : Array Value := (p.data.map fun b => Value.int .u8 b.toNat) ++ Array.replicate (cap - p.size) (.int .u8 0)
      have harr : arr.size = cap := by simp only [arr, Array.size_append, hl, Array.size_replicate]; omega
      have htk : arr.toList.take p.size = p.data.toList.map fun b => Value.int .u8 b.toNat := by
        simp only [arr, Array.toList_append, hcells]
        have hln : (p.data.toList.map fun b => Value.int .u8 b.toNat).length = p.size := List.length_map ..
        rw [List.take_append_of_le_length (Nat.le_of_eq hln.symm), List.take_of_length_le (Nat.le_of_eq hln)]
      have hal : Alike ((w.drew.alloc (.cells arr e)).freeze ⟨w.heap.size, arr.size, none⟩ 1) ((w.drew.alloc (.cells arr e)).freeze ⟨w.heap.size, arr.size, none⟩ 1) := Alike.refl _
      have hfz : ((w.drew.alloc (.cells arr e)).freeze ⟨w.heap.size, arr.size, none⟩ 1).heap = (w.alloc (.cells arr e (arr.size, arr.size + 1))).heap := by
        simp only [World.freeze, World.alloc, World.drew]
        rw [if_neg (by omega), push_modify]
        simp
      have hw : Alike (w.alloc (.cells arr e (arr.size, arr.size + 1))) ((w.drew.alloc (.cells arr e)).freeze ⟨w.heap.size, arr.size, none⟩ 1) := by
        refine ⟨hfz, ?_, ?_, ?_⟩ <;> (simp only [World.freeze]; rw [if_neg (by omega)]; rfl)
      have _ := hal
      have hwent := R.alloc hR (.cells (bytesD (p.data.toList.map UInt8.toNat)) e 1) (.cells arr e (arr.size, arr.size + 1)) ⟨w.heap.size, 0, arr.size, 1⟩ rfl hw (by
        refine ⟨arr, arr.size, arr.size + 1, ?_, rfl, fun i hi hh => by omega, rfl, ?_, ?_⟩
        · show (w.heap.push _)[w.heap.size]? = _
          simp
        · rw [bytesD_eq, List.length_map]; show 0 + p.size ≤ arr.size; omega
        · rw [bytesD_eq, List.length_map, List.drop_zero]
          show VRs _ _ (arr.toList.take p.size)
          rw [htk]
          exact bytesV _) (fun h => absurd h (by simp [selfC, he]))
      refine ⟨_, _, .slice (some ⟨w.heap.size, 0, none⟩) p.size cap, ?_, ?_, hwent⟩
      · simp only [Go.convert, Sem.run_bind, run_underlying' hs, run_underlying' hd, run_underlying' he, Result.andThen_ok, Conv.stringToBytes, hrun, newRow, run_newObj, Sem.run_pure, World.alloc_eq, markStringish, run_shape]
        have hsh : (w.drew.alloc (.cells arr e)).shape? w.heap.size = some (e, arr.size) := by
          simp only [World.shape?, World.alloc, World.drew]
          simp
        have e0 : w.drew.heap.size = w.heap.size := rfl
        rw [e0]
        simp only [arr] at hsh ⊢
        rw [hsh]
        simp only [run_freeze, Result.andThen_ok, Sem.run_pure]
      · have := VR.slice (ρ := upd ρ s.next ⟨w.heap.size, 0, arr.size, 1⟩) (b := s.next) (o := 0) (n := p.size) (c := cap) (upd_self _ _ _) hcap (by show 0 + 0 + cap * 1 ≤ arr.size; omega)
        simpa using this
    · rw [bif_false h0] at h; cases h
  · cases h
end
end Go.D
